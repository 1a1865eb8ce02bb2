/- Contracts of inner functions of the program, and what they compute: parts of a proof. -/
import Derived.Test.YtcjdbmcklemkkaaDoorRH
import Derived.Test.YtcjdbmcklemkkaaDoorVcRange
namespace Go.Proofs.YtcjdbmcklemkkaaDoor
open Go Go.Proofs Go.Vc Go.RowKit
set_option maxRecDepth 100000
set_option linter.unusedSimpArgs false
set_option linter.unusedVariables false


theorem indexByte_split (c : UInt8) : ∀ (s : List UInt8), (Lib.indexByte s c = -1 ∧ c ∉ s) ∨ (∃ a l, s = a ++ c :: l ∧ c ∉ a ∧ Lib.indexByte s c = a.length)
  | [] => .inl ⟨rfl, by simp⟩
  | b :: s => by
    by_cases hb : b = c
    · right; exact ⟨[], s, by simp [hb], by simp, by simp [Lib.indexByte, hb]⟩
    · have hb' : (b == c) = false := by simpa using hb
      rcases indexByte_split c s with ⟨h1, h2⟩ | ⟨a, l, rfl, h2, h3⟩
      · left; exact ⟨by simp [Lib.indexByte, hb', h1], by simp [h2, Ne.symm hb]⟩
      · right
        refine ⟨b :: a, l, rfl, by simp [h2, Ne.symm hb], ?_⟩
        rw [Lib.indexByte, hb', h3]
        have : ((a.length : Int) == -1) = false := by simp only [beq_eq_false_iff_ne, ne_eq]; omega
        simp [this]

theorem splitSeq_spec (s : List UInt8) (c : UInt8) (w : World) :
    Calls Tryd.prog 15 #[.string (str s), .string (str [c])] w fun x w' => x = .returned (.func (.func 45) #[] #[rp (w.heap.size + 1), rp w.heap.size, rp (w.heap.size + 2)]) ∧
      Row w' w.heap.size 9 [.string (str s)] ∧ Row w' (w.heap.size + 1) 9 [.string (str [c])] ∧ Row w' (w.heap.size + 2) 3 [.int .i64 0] ∧ w'.heap.size = w.heap.size + 3 ∧ Kept w w' := by
  refine calls_of_at (e := ⟨Tryd.prog, 15, 8, Tryd.f15, [.tmp 4], none, []⟩) Tryd.func15 rfl (by simp) rfl ?_; refine vc_sound rfl Tryd.func15 400 (.code _) _ _ ?_
  simp only [↓vcs, ↓vcs2, vcs3, vcs4, vals, blds, vcs5, vcs6, pures, ints, tys0, tys1, tys2, tys3, tys4, tys5, ↓reduceIte, if_true, if_false, Nat.reduceLT, Nat.reduceLeDiff, Nat.reduceEqDiff, Nat.reduceAdd, Nat.reduceMul, Nat.reduceSub, conds, readsF, readsOk, zero_ne_one_, one_ne_zero_, true_and, and_true, and_self, false_and, and_false, eq_self, reduceCtorEq, Bool.true_and, Bool.and_true, Bool.false_and, Bool.and_false, Bool.false_eq_true, Bool.true_eq_false, forall_const, true_imp_, false_imp_, imp_self, implies_true, Bool.not_true, Bool.not_false, Bool.false_or, Bool.true_or, Bool.or_false, Bool.or_true, beq_true_, beq_false_, Nat.zero_add, Nat.add_zero, fr0_cons_zero, fr0_cons_succ, fr0_0, fr0_1, fr0_2, fr0_3, fr0_4, List.map_cons, List.map_nil, List.map_toArray, Option.map_some, Option.map_none, List.append_toArray, List.nil_append, List.cons_append, List.append_nil, List.all_cons, List.all_nil, List.set_cons_zero, List.set_cons_succ, Array.getD_lit, Array.size_lit, List.reverse_cons, List.reverse_nil, Op.operands, Call.operands, List.toList_toArray, Addr.add_lit, Option.some.injEq, exists_eq_left', Value.pointer.injEq, exists_eq_left, Int.toNat_natCast, Int.reduceToNat, Nat.mul_one, loads, List.length_cons, List.length_nil, Nat.reducePow]
  refine Calls.mono (R := fun x w' => x = .returned (.func (.func 45) #[] #[rp (w.heap.size + 1), rp w.heap.size, rp (w.heap.size + 2)]) ∧
      Row w' w.heap.size 9 [.string (str s)] ∧ Row w' (w.heap.size + 1) 9 [.string (str [c])] ∧ Row w' (w.heap.size + 2) 3 [.int .i64 0] ∧ w'.heap.size = w.heap.size + 3 ∧ Kept w w') ?_ ?_
  · refine calls_of_at (e := ⟨Tryd.prog, 28, 8, Tryd.f28, [.tmp 6], none, []⟩) Tryd.func28 rfl (by simp) rfl ?_; refine vc_sound rfl Tryd.func28 400 (.code _) _ _ ?_
    simp only [↓vcs, ↓vcs2, vcs3, vcs4, vals, blds, vcs5, vcs6, pures, ints, tys0, tys1, tys2, tys3, tys4, tys5, ↓reduceIte, if_true, if_false, Nat.reduceLT, Nat.reduceLeDiff, Nat.reduceEqDiff, Nat.reduceAdd, Nat.reduceMul, Nat.reduceSub, conds, readsF, readsOk, zero_ne_one_, one_ne_zero_, true_and, and_true, and_self, false_and, and_false, eq_self, reduceCtorEq, Bool.true_and, Bool.and_true, Bool.false_and, Bool.and_false, Bool.false_eq_true, Bool.true_eq_false, forall_const, true_imp_, false_imp_, imp_self, implies_true, Bool.not_true, Bool.not_false, Bool.false_or, Bool.true_or, Bool.or_false, Bool.or_true, beq_true_, beq_false_, Nat.zero_add, Nat.add_zero, fr0_cons_zero, fr0_cons_succ, fr0_0, fr0_1, fr0_2, fr0_3, fr0_4, List.map_cons, List.map_nil, List.map_toArray, Option.map_some, Option.map_none, List.append_toArray, List.nil_append, List.cons_append, List.append_nil, List.all_cons, List.all_nil, List.set_cons_zero, List.set_cons_succ, Array.getD_lit, Array.size_lit, List.reverse_cons, List.reverse_nil, Op.operands, Call.operands, List.toList_toArray, Addr.add_lit, Option.some.injEq, exists_eq_left', Value.pointer.injEq, exists_eq_left, Int.toNat_natCast, Int.reduceToNat, Nat.mul_one, loads, List.length_cons, List.length_nil, Nat.reducePow]
    have k1 := (Kept.refl w).alloc (.cells [Value.string (str s)].toArray 9)
    have k2 := (Kept.refl (w.alloc (.cells [Value.string (str s)].toArray 9))).alloc (.cells [Value.string (str [c])].toArray 9)
    have k3 := (Kept.refl ((w.alloc (.cells [Value.string (str s)].toArray 9)).alloc (.cells [Value.string (str [c])].toArray 9))).alloc (.cells [Value.int .i64 0].toArray 3)
    have s1 : (w.alloc (.cells [Value.string (str s)].toArray 9)).heap.size = w.heap.size + 1 := by simp only [World.alloc, Array.size_push]
    have s2 : ((w.alloc (.cells [Value.string (str s)].toArray 9)).alloc (.cells [Value.string (str [c])].toArray 9)).heap.size = w.heap.size + 2 := by simp only [World.alloc, Array.size_push]
    have r1 := ((Row.new w 9 [.string (str s)]).keep k2).keep k3
    have r2 := (Row.new (w.alloc (.cells [Value.string (str s)].toArray 9)) 9 [.string (str [c])]).keep k3
    have r3 := Row.new ((w.alloc (.cells [Value.string (str s)].toArray 9)).alloc (.cells [Value.string (str [c])].toArray 9)) 3 [.int .i64 0]
    rw [s1] at r2
    rw [s2] at r3
    refine ⟨?_, r1, r2, r3, by simp only [World.alloc, Array.size_push], (k1.trans k2).trans k3⟩
    rw [s1, s2]
  · rintro _ w' ⟨rfl, h⟩
    exact ⟨_, rfl, rfl, h⟩

theorem callE_yield {L : Nat} {args : Array Value} {w : World} {R : Ending → World → Prop} (h : yieldE Tryd.prog L args w R) : callE Tryd.prog (yv L) args w R := by
  show yieldE Tryd.prog L (#[] ++ args) w R
  rw [Array.empty_append]; exact h

/-- What the iterator asks of a round. -/
structure Round (L : Nat) (p q r : Nat) (all : List (List UInt8)) (J Jx : List (List UInt8) → World → Prop) : Prop where
  go : ∀ pre x W, (pre ++ [x]) <+: all → J pre W → yieldE Tryd.prog L #[.string (str x)] W fun e W' => (∀ b, b = p ∨ b = q ∨ b = r → W'.heap[b]? = W.heap[b]?) ∧ ((e = .returned (.bool true) ∧ J (pre ++ [x]) W') ∨ (e = .returned (.bool false) ∧ Jx (pre ++ [x]) W'))
  keep : ∀ pre W W', J pre W → KeptBut p W W' → J pre W'
  keepx : ∀ pre W W', Jx pre W → KeptBut p W W' → Jx pre W'

theorem iter_spec (L : Nat) (p q r : Nat) (hpq : p ≠ q) (hpr : p ≠ r) (s : List UInt8) (c : UInt8) (w : World) (J Jx : List (List UInt8) → World → Prop) (hR : Round L p q r (splitL c s) J Jx) (hs : s.length ≤ 1000000)
    (hp : Row w p 9 [.string (str s)]) (hq : Row w q 9 [.string (str [c])]) (hr : Row w r 3 [.int .i64 0]) (h0 : J [] w) :
    Calls Tryd.prog 45 #[yv L, rp q, rp p, rp r] w fun x w' => x = .returned (.tuple #[]) ∧ (J (splitL c s) w' ∨ ∃ pre, pre <+: splitL c s ∧ Jx pre w') := by
  refine calls_of_at (e := ⟨Tryd.prog, 45, 52, Tryd.f45, [], none, []⟩) Tryd.func45 rfl (by simp) rfl ?_; refine vc_sound rfl Tryd.func45 400 (.code _) _ _ ?_
  simp only [↓vcs, ↓vcs2, vcs3, vcs4, vals, blds, vcs5, vcs6, pures, ints, tys0, tys1, tys2, tys3, tys4, tys5, ↓reduceIte, if_true, if_false, Nat.reduceLT, Nat.reduceLeDiff, Nat.reduceEqDiff, Nat.reduceAdd, Nat.reduceMul, Nat.reduceSub, conds, readsF, readsOk, zero_ne_one_, one_ne_zero_, true_and, and_true, and_self, false_and, and_false, eq_self, reduceCtorEq, Bool.true_and, Bool.and_true, Bool.false_and, Bool.and_false, Bool.false_eq_true, Bool.true_eq_false, forall_const, true_imp_, false_imp_, imp_self, implies_true, Bool.not_true, Bool.not_false, Bool.false_or, Bool.true_or, Bool.or_false, Bool.or_true, beq_true_, beq_false_, Nat.zero_add, Nat.add_zero, fr0_cons_zero, fr0_cons_succ, fr0_0, fr0_1, fr0_2, fr0_3, fr0_4, List.map_cons, List.map_nil, List.map_toArray, Option.map_some, Option.map_none, List.append_toArray, List.nil_append, List.cons_append, List.append_nil, List.all_cons, List.all_nil, List.set_cons_zero, List.set_cons_succ, Array.getD_lit, Array.size_lit, List.reverse_cons, List.reverse_nil, Op.operands, Call.operands, List.toList_toArray, Addr.add_lit, Option.some.injEq, exists_eq_left', Value.pointer.injEq, exists_eq_left, Int.toNat_natCast, Int.reduceToNat, Nat.mul_one, loads, List.length_cons, List.length_nil, Nat.reducePow, str_toList, lit_str, str_size, str_byteAt, str_append, str_extract]
  refine ⟨str [c], hq.at_ rfl, ?_⟩
  have hz : ((((str [c]).size : Nat) : Int) == 0) = false := by rw [str_size]; rfl
  simp only [hz, Bool.false_eq_true, if_false]
  refine At.ind (fun m (x : List (List UInt8) × List UInt8) f w' => f 0 = yv L ∧ f 1 = rp q ∧ f 2 = rp p ∧ f 3 = rp r ∧ m = x.2.length ∧ splitL c s = x.1 ++ splitL c x.2 ∧ x.2.length ≤ s.length ∧ Row w' p 9 [.string (str x.2)] ∧ Row w' q 9 [.string (str [c])] ∧ Row w' r 3 [.int .i64 0] ∧ J x.1 w') (m := s.length) (x := ([], s)) ?_ ?_
  · simp only [↓vcs, ↓vcs2, vcs3, vcs4, vals, blds, vcs5, vcs6, pures, ints, tys0, tys1, tys2, tys3, tys4, tys5, ↓reduceIte, if_true, if_false, Nat.reduceLT, Nat.reduceLeDiff, Nat.reduceEqDiff, Nat.reduceAdd, Nat.reduceMul, Nat.reduceSub, conds, readsF, readsOk, zero_ne_one_, one_ne_zero_, true_and, and_true, and_self, false_and, and_false, eq_self, reduceCtorEq, Bool.true_and, Bool.and_true, Bool.false_and, Bool.and_false, Bool.false_eq_true, Bool.true_eq_false, forall_const, true_imp_, false_imp_, imp_self, implies_true, Bool.not_true, Bool.not_false, Bool.false_or, Bool.true_or, Bool.or_false, Bool.or_true, beq_true_, beq_false_, Nat.zero_add, Nat.add_zero, fr0_cons_zero, fr0_cons_succ, fr0_0, fr0_1, fr0_2, fr0_3, fr0_4, List.map_cons, List.map_nil, List.map_toArray, Option.map_some, Option.map_none, List.append_toArray, List.nil_append, List.cons_append, List.append_nil, List.all_cons, List.all_nil, List.set_cons_zero, List.set_cons_succ, Array.getD_lit, Array.size_lit, List.reverse_cons, List.reverse_nil, Op.operands, Call.operands, List.toList_toArray, Addr.add_lit, Option.some.injEq, exists_eq_left', Value.pointer.injEq, exists_eq_left, Int.toNat_natCast, Int.reduceToNat, Nat.mul_one, loads, List.length_cons, List.length_nil, Nat.reducePow]
    exact ⟨Nat.le_refl _, hp, hq, hr, h0⟩
  rintro m ih ⟨pre, rest⟩ f w' ⟨f0, f1, f2, f3, hm, hall, hlen, hp', hq', hr', hJ⟩
  refine vc_sound rfl Tryd.func45 400 (.code _) _ _ ?_
  simp only at hm hall hlen hp' hJ
  simp only [↓vcs, ↓vcs2, vcs3, vcs4, vals, blds, vcs5, vcs6, pures, ints, tys0, tys1, tys2, tys3, tys4, tys5, ↓reduceIte, if_true, if_false, Nat.reduceLT, Nat.reduceLeDiff, Nat.reduceEqDiff, Nat.reduceAdd, Nat.reduceMul, Nat.reduceSub, conds, readsF, readsOk, zero_ne_one_, one_ne_zero_, true_and, and_true, and_self, false_and, and_false, eq_self, reduceCtorEq, Bool.true_and, Bool.and_true, Bool.false_and, Bool.and_false, Bool.false_eq_true, Bool.true_eq_false, forall_const, true_imp_, false_imp_, imp_self, implies_true, Bool.not_true, Bool.not_false, Bool.false_or, Bool.true_or, Bool.or_false, Bool.or_true, beq_true_, beq_false_, Nat.zero_add, Nat.add_zero, fr0_cons_zero, fr0_cons_succ, fr0_0, fr0_1, fr0_2, fr0_3, fr0_4, List.map_cons, List.map_nil, List.map_toArray, Option.map_some, Option.map_none, List.append_toArray, List.nil_append, List.cons_append, List.append_nil, List.all_cons, List.all_nil, List.set_cons_zero, List.set_cons_succ, Array.getD_lit, Array.size_lit, List.reverse_cons, List.reverse_nil, Op.operands, Call.operands, List.toList_toArray, Addr.add_lit, Option.some.injEq, exists_eq_left', Value.pointer.injEq, exists_eq_left, Int.toNat_natCast, Int.reduceToNat, Nat.mul_one, loads, List.length_cons, List.length_nil, Nat.reducePow, str_toList, lit_str, str_size, str_byteAt, str_append, str_extract, f0, f1, f2, f3]
  refine ⟨str rest, hp'.at_ rfl, str [c], hq'.at_ rfl, (Tryd.strings_Index_one _ _ _).mono ?_⟩
  rintro _ w' ⟨rfl, rfl⟩
  refine ⟨_, rfl, ?_⟩
  rcases indexByte_split c rest with ⟨h1, h2⟩ | ⟨a, l, rfl, h2, h3⟩
  · simp only [show Lib.indexByte (str rest).data.toList c = -1 from h1, ↓vcs, ↓vcs2, vcs3, vcs4, vals, blds, vcs5, vcs6, pures, ints, tys0, tys1, tys2, tys3, tys4, tys5, ↓reduceIte, if_true, if_false, Nat.reduceLT, Nat.reduceLeDiff, Nat.reduceEqDiff, Nat.reduceAdd, Nat.reduceMul, Nat.reduceSub, conds, readsF, readsOk, zero_ne_one_, one_ne_zero_, true_and, and_true, and_self, false_and, and_false, eq_self, reduceCtorEq, Bool.true_and, Bool.and_true, Bool.false_and, Bool.and_false, Bool.false_eq_true, Bool.true_eq_false, forall_const, true_imp_, false_imp_, imp_self, implies_true, Bool.not_true, Bool.not_false, Bool.false_or, Bool.true_or, Bool.or_false, Bool.or_true, beq_true_, beq_false_, Nat.zero_add, Nat.add_zero, fr0_cons_zero, fr0_cons_succ, fr0_0, fr0_1, fr0_2, fr0_3, fr0_4, List.map_cons, List.map_nil, List.map_toArray, Option.map_some, Option.map_none, List.append_toArray, List.nil_append, List.cons_append, List.append_nil, List.all_cons, List.all_nil, List.set_cons_zero, List.set_cons_succ, Array.getD_lit, Array.size_lit, List.reverse_cons, List.reverse_nil, Op.operands, Call.operands, List.toList_toArray, Addr.add_lit, Option.some.injEq, exists_eq_left', Value.pointer.injEq, exists_eq_left, Int.toNat_natCast, Int.reduceToNat, Nat.mul_one, loads, List.length_cons, List.length_nil, Nat.reducePow]
    rw [splitL_none h2] at hall
    rw [if_pos (by decide)]
    refine ⟨str rest, hp'.at_ rfl, callE_mono (callE_yield (hR.go pre rest w' (by rw [hall]; exact List.prefix_refl _) hJ)) ?_⟩
    rintro x w2 ⟨hrows, h⟩
    rcases h with ⟨rfl, h⟩ | ⟨rfl, h⟩
    · exact ⟨_, rfl, .inl (by rw [hall]; exact h)⟩
    · exact ⟨_, rfl, .inr ⟨_, by rw [hall]; exact List.prefix_refl _, h⟩⟩
  · simp only [show Lib.indexByte (str (a ++ c :: l)).data.toList c = (a.length : Int) from h3, ↓vcs, ↓vcs2, vcs3, vcs4, vals, blds, vcs5, vcs6, pures, ints, tys0, tys1, tys2, tys3, tys4, tys5, ↓reduceIte, if_true, if_false, Nat.reduceLT, Nat.reduceLeDiff, Nat.reduceEqDiff, Nat.reduceAdd, Nat.reduceMul, Nat.reduceSub, conds, readsF, readsOk, zero_ne_one_, one_ne_zero_, true_and, and_true, and_self, false_and, and_false, eq_self, reduceCtorEq, Bool.true_and, Bool.and_true, Bool.false_and, Bool.and_false, Bool.false_eq_true, Bool.true_eq_false, forall_const, true_imp_, false_imp_, imp_self, implies_true, Bool.not_true, Bool.not_false, Bool.false_or, Bool.true_or, Bool.or_false, Bool.or_true, beq_true_, beq_false_, Nat.zero_add, Nat.add_zero, fr0_cons_zero, fr0_cons_succ, fr0_0, fr0_1, fr0_2, fr0_3, fr0_4, List.map_cons, List.map_nil, List.map_toArray, Option.map_some, Option.map_none, List.append_toArray, List.nil_append, List.cons_append, List.append_nil, List.all_cons, List.all_nil, List.set_cons_zero, List.set_cons_succ, Array.getD_lit, Array.size_lit, List.reverse_cons, List.reverse_nil, Op.operands, Call.operands, List.toList_toArray, Addr.add_lit, Option.some.injEq, exists_eq_left', Value.pointer.injEq, exists_eq_left, Int.toNat_natCast, Int.reduceToNat, Nat.mul_one, loads, List.length_cons, List.length_nil, Nat.reducePow]
    rw [splitL_some h2] at hall
    rw [if_neg (by simp)]
    have hal : (a ++ c :: l).length = a.length + l.length + 1 := by simp; omega
    have hw0 : IntKind.i64.wrap ((a.length : Int) + 0) = a.length := by rw [Int.add_zero]; exact wrap_i64 (by omega) (by omega)
    have hw1 : IntKind.i64.wrap ((a.length : Int) + 1) = ((a.length + 1 : Nat) : Int) := by rw [wrap_i64 (by omega) (by omega)]; simp
    refine ⟨str (a ++ c :: l), hp'.at_ rfl, 0, hr'.at_ rfl, ?_⟩
    have hpre : pre ++ [a] <+: splitL c s := by rw [hall]; exact ⟨splitL c l, by simp⟩
    simp only [↓vcs, ↓vcs2, vcs3, vcs4, vals, blds, vcs5, vcs6, pures, ints, tys0, tys1, tys2, tys3, tys4, tys5, ↓reduceIte, if_true, if_false, Nat.reduceLT, Nat.reduceLeDiff, Nat.reduceEqDiff, Nat.reduceAdd, Nat.reduceMul, Nat.reduceSub, conds, readsF, readsOk, zero_ne_one_, one_ne_zero_, true_and, and_true, and_self, false_and, and_false, eq_self, reduceCtorEq, Bool.true_and, Bool.and_true, Bool.false_and, Bool.and_false, Bool.false_eq_true, Bool.true_eq_false, forall_const, true_imp_, false_imp_, imp_self, implies_true, Bool.not_true, Bool.not_false, Bool.false_or, Bool.true_or, Bool.or_false, Bool.or_true, beq_true_, beq_false_, Nat.zero_add, Nat.add_zero, fr0_cons_zero, fr0_cons_succ, fr0_0, fr0_1, fr0_2, fr0_3, fr0_4, List.map_cons, List.map_nil, List.map_toArray, Option.map_some, Option.map_none, List.append_toArray, List.nil_append, List.cons_append, List.append_nil, List.all_cons, List.all_nil, List.set_cons_zero, List.set_cons_succ, Array.getD_lit, Array.size_lit, List.reverse_cons, List.reverse_nil, Op.operands, Call.operands, List.toList_toArray, Addr.add_lit, Option.some.injEq, exists_eq_left', Value.pointer.injEq, exists_eq_left, Int.toNat_natCast, Int.reduceToNat, Nat.mul_one, loads, List.length_cons, List.length_nil, Nat.reducePow, str_toList, lit_str, str_size, str_byteAt, str_append, str_extract, hw0]
    have htk : ((a ++ c :: l).drop (0 : Int).toNat).take ((a.length : Int).toNat - (0 : Int).toNat) = a := by simp
    simp only [Int.toNat_natCast, Int.reduceToNat] at htk ⊢
    rw [htk]
    refine ⟨⟨by omega, by omega, by omega⟩, callE_mono (callE_yield (hR.go pre a w' hpre hJ)) ?_⟩
    rintro x w2 ⟨hrows, h⟩
    have hp2 : Row w2 p 9 [.string (str (a ++ c :: l))] := (hrows p (.inl rfl)).trans hp'
    have hq2 : Row w2 q 9 [.string (str [c])] := (hrows q (.inr (.inl rfl))).trans hq'
    have hr2 : Row w2 r 3 [.int .i64 0] := (hrows r (.inr (.inr rfl))).trans hr'
    rcases h with ⟨rfl, h⟩ | ⟨rfl, h⟩
    · refine ⟨_, rfl, ?_⟩
      simp only [↓vcs, ↓vcs2, vcs3, vcs4, vals, blds, vcs5, vcs6, pures, ints, tys0, tys1, tys2, tys3, tys4, tys5, ↓reduceIte, if_true, if_false, Nat.reduceLT, Nat.reduceLeDiff, Nat.reduceEqDiff, Nat.reduceAdd, Nat.reduceMul, Nat.reduceSub, conds, readsF, readsOk, zero_ne_one_, one_ne_zero_, true_and, and_true, and_self, false_and, and_false, eq_self, reduceCtorEq, Bool.true_and, Bool.and_true, Bool.false_and, Bool.and_false, Bool.false_eq_true, Bool.true_eq_false, forall_const, true_imp_, false_imp_, imp_self, implies_true, Bool.not_true, Bool.not_false, Bool.false_or, Bool.true_or, Bool.or_false, Bool.or_true, beq_true_, beq_false_, Nat.zero_add, Nat.add_zero, fr0_cons_zero, fr0_cons_succ, fr0_0, fr0_1, fr0_2, fr0_3, fr0_4, List.map_cons, List.map_nil, List.map_toArray, Option.map_some, Option.map_none, List.append_toArray, List.nil_append, List.cons_append, List.append_nil, List.all_cons, List.all_nil, List.set_cons_zero, List.set_cons_succ, Array.getD_lit, Array.size_lit, List.reverse_cons, List.reverse_nil, Op.operands, Call.operands, List.toList_toArray, Addr.add_lit, Option.some.injEq, exists_eq_left', Value.pointer.injEq, exists_eq_left, Int.toNat_natCast, Int.reduceToNat, Nat.mul_one, loads, List.length_cons, List.length_nil, Nat.reducePow, str_toList, lit_str, str_size, str_byteAt, str_append, str_extract]
      refine ⟨str (a ++ c :: l), hp2.at_ rfl, str [c], hq2.at_ rfl, ?_⟩
      simp only [str_toList, lit_str, str_size, str_byteAt, str_append, str_extract, List.length_cons, List.length_nil]
      have hw2 : IntKind.i64.wrap ((a.length : Int) + ((0 + 1 : Nat) : Int)) = ((a.length + 1 : Nat) : Int) := by rw [wrap_i64 (by omega) (by omega)]; simp
      rw [hw2]
      refine ⟨⟨by omega, by omega, by omega⟩, ?_⟩
      have hdr : ((a ++ c :: l).drop (((a.length + 1 : Nat) : Int)).toNat).take ((((a ++ c :: l).length : Nat) : Int).toNat - (((a.length + 1 : Nat) : Int)).toNat) = l := by
        rw [Int.toNat_natCast, Int.toNat_natCast, hal, show a ++ c :: l = (a ++ [c]) ++ l by simp, show a.length + 1 = (a ++ [c]).length by simp, List.drop_left]
        exact List.take_of_length_le (by simp)
      simp only [Int.toNat_natCast] at hdr ⊢
      rw [hdr]
      refine ⟨_, run_store1 (by kernel_rfl) hp2 (by simp) rfl, ?_⟩
      have hkb := setRow_but w2 p (([Value.string (str (a ++ c :: l))].set 0 (Value.string (str l)))).toArray
      refine ih l.length (pre ++ [a], l) _ _ (by omega) ?_
      simp only [↓vcs, ↓vcs2, vcs3, vcs4, vals, blds, vcs5, vcs6, pures, ints, tys0, tys1, tys2, tys3, tys4, tys5, ↓reduceIte, if_true, if_false, Nat.reduceLT, Nat.reduceLeDiff, Nat.reduceEqDiff, Nat.reduceAdd, Nat.reduceMul, Nat.reduceSub, conds, readsF, readsOk, zero_ne_one_, one_ne_zero_, true_and, and_true, and_self, false_and, and_false, eq_self, reduceCtorEq, Bool.true_and, Bool.and_true, Bool.false_and, Bool.and_false, Bool.false_eq_true, Bool.true_eq_false, forall_const, true_imp_, false_imp_, imp_self, implies_true, Bool.not_true, Bool.not_false, Bool.false_or, Bool.true_or, Bool.or_false, Bool.or_true, beq_true_, beq_false_, Nat.zero_add, Nat.add_zero, fr0_cons_zero, fr0_cons_succ, fr0_0, fr0_1, fr0_2, fr0_3, fr0_4, List.map_cons, List.map_nil, List.map_toArray, Option.map_some, Option.map_none, List.append_toArray, List.nil_append, List.cons_append, List.append_nil, List.all_cons, List.all_nil, List.set_cons_zero, List.set_cons_succ, Array.getD_lit, Array.size_lit, List.reverse_cons, List.reverse_nil, Op.operands, Call.operands, List.toList_toArray, Addr.add_lit, Option.some.injEq, exists_eq_left', Value.pointer.injEq, exists_eq_left, Int.toNat_natCast, Int.reduceToNat, Nat.mul_one, loads, List.length_cons, List.length_nil, Nat.reducePow, f0, f1, f2, f3]
      exact ⟨by rw [hall]; simp, by omega, hp2.set _, (setRow_other _ _ _ _ hpq.symm).trans hq2, (setRow_other _ _ _ _ hpr.symm).trans hr2, hR.keep _ _ _ h hkb⟩
    · refine ⟨_, rfl, ?_⟩
      simp only [↓vcs, ↓vcs2, vcs3, vcs4, vals, blds, vcs5, vcs6, pures, ints, tys0, tys1, tys2, tys3, tys4, tys5, ↓reduceIte, if_true, if_false, Nat.reduceLT, Nat.reduceLeDiff, Nat.reduceEqDiff, Nat.reduceAdd, Nat.reduceMul, Nat.reduceSub, conds, readsF, readsOk, zero_ne_one_, one_ne_zero_, true_and, and_true, and_self, false_and, and_false, eq_self, reduceCtorEq, Bool.true_and, Bool.and_true, Bool.false_and, Bool.and_false, Bool.false_eq_true, Bool.true_eq_false, forall_const, true_imp_, false_imp_, imp_self, implies_true, Bool.not_true, Bool.not_false, Bool.false_or, Bool.true_or, Bool.or_false, Bool.or_true, beq_true_, beq_false_, Nat.zero_add, Nat.add_zero, fr0_cons_zero, fr0_cons_succ, fr0_0, fr0_1, fr0_2, fr0_3, fr0_4, List.map_cons, List.map_nil, List.map_toArray, Option.map_some, Option.map_none, List.append_toArray, List.nil_append, List.cons_append, List.append_nil, List.all_cons, List.all_nil, List.set_cons_zero, List.set_cons_succ, Array.getD_lit, Array.size_lit, List.reverse_cons, List.reverse_nil, Op.operands, Call.operands, List.toList_toArray, Addr.add_lit, Option.some.injEq, exists_eq_left', Value.pointer.injEq, exists_eq_left, Int.toNat_natCast, Int.reduceToNat, Nat.mul_one, loads, List.length_cons, List.length_nil, Nat.reducePow, str_toList, lit_str, str_size, str_byteAt, str_append, str_extract]
      exact .inr ⟨_, hpre, h⟩
end Go.Proofs.YtcjdbmcklemkkaaDoor
