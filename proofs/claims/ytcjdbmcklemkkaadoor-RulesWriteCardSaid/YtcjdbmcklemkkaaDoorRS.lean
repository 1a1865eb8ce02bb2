/- Contracts of inner functions of the program, and what they compute: parts of a proof. -/
import Derived.Test.YtcjdbmcklemkkaaDoorRO
import Derived.Test.YtcjdbmcklemkkaaDoorRR
namespace Go.Proofs.YtcjdbmcklemkkaaDoor
open Go Go.Proofs Go.Vc Go.RowKit
set_option maxRecDepth 100000
set_option linter.unusedSimpArgs false
set_option linter.unusedVariables false


theorem BuilderAt.keep {T e : TypeId} {B b : Nat} {p : Value} {bs : List Value} {w w' : World} (h : Lib.BuilderAt T e B b p bs w) (hk : Kept w w') : Lib.BuilderAt T e B b p bs w' := by
  obtain ⟨hB, v, hb, hown, hne⟩ := h
  have hlt : b < w.heap.size := (Array.getElem?_eq_some_iff.1 hb).1
  refine ⟨hB, v, (hk.block b hlt).trans hb, ?_, hne⟩
  obtain ⟨s, rfl, hs⟩ := ownsRow_sl hown
  have : Vc.Own w B e 1 s bs := by unfold Vc.Own; rw [hs]; exact hown
  have := this.below hk (Nat.le_refl _)
  unfold Vc.Own at this; rwa [hs] at this
theorem Bld.keep {B b : Nat} {l : List UInt8} {w w' : World} (h : Bld B b l w) (hk : Kept w w') : Bld B b l w' := by
  rcases h with h | h
  · exact .inl (BuilderAt.keep h hk)
  · exact .inr (BuilderAt.keep h hk)
/-- A new one. -/
theorem Bld.new (w : World) {B : Nat} (hB : B ≤ w.heap.size) : Bld B w.heap.size [] (w.alloc (.cells #[.pointer none, Sl.v ⟨none, 0, 0⟩] 50)) :=
  .inl ⟨hB, _, Row.new w 50 [.pointer none, Sl.v ⟨none, 0, 0⟩], World.ownsRow_nil _ _ _ _, by simp [Value.ownBlock, Sl.v]⟩

theorem tellOf_num {r : RuleV} {l : List (List UInt8)} (ht : tellOf r = some l) : l.length ≤ 5 := by
  rw [tellOf] at ht
  split at ht
  · cases ht
  · rename_i f hf
    split at ht
    · cases ht
    · simp only at ht
      split at ht
      · cases ht
      · split at ht
        · simp only [Option.some.injEq] at ht
          subst ht
          have := tellWords_num f r; simp; omega
        · cases ht
theorem lineOf_len {r : RuleV} (h : Small r) : (lineOf r).length ≤ 10000000 := by
  unfold lineOf
  cases ht : tellOf r with
  | none => simp [Lib.join_nil]
  | some l =>
    have key : l.length ≤ 5 ∧ ∀ x ∈ l, x.length ≤ 1000000 := by
      rw [tellOf] at ht
      split at ht
      · cases ht
      · rename_i f hf
        have hok := formsL_ok f (List.mem_of_find?_eq_some hf)
        split at ht
        · cases ht
        · rename_i h2
          simp only [Bool.or_eq_true, decide_eq_true_eq, not_or] at h2
          simp only at ht
          split at ht
          · cases ht
          · split at ht
            · simp only [Option.some.injEq] at ht
              subst ht
              refine ⟨by have := tellWords_num f r; simp; omega, fun x hx => ?_⟩
              rcases List.mem_cons.1 hx with rfl | hx
              · have := hok.2; omega
              · exact tellWords_len h (by omega) f x hx
            · cases ht
    have := join_len l 1000000 key.2
    have h3 : l.length * (1000000 + 1) ≤ 5 * (1000000 + 1) := Nat.mul_le_mul_right _ key.1
    simp only [Option.getD_some, List.length_append, List.length_cons, List.length_nil]
    omega
theorem linesOf_len : ∀ (rs : List RuleV), (∀ r ∈ rs, Small r) → (linesOf rs).length ≤ 10000000 * rs.length
  | [], _ => by simp [linesOf]
  | r :: rs, h => by
    have h1 := lineOf_len (h r (by simp))
    have h2 := linesOf_len rs (fun x hx => h x (by simp [hx]))
    simp only [linesOf, List.flatMap_cons, List.length_append, List.length_cons] at *
    omega

set_option maxHeartbeats 2000000 in
theorem write_spec (s : Sl) (rs : List RuleV) (w : World) (hs : Is elRule w s rs) (hS : ∀ r ∈ rs, Small r) (hl : rs.length ≤ 10000000) :
    Calls Tryd.prog 9 #[s.v] w fun x w' => x = .returned (.tuple #[.string (str (writeOf rs).1), .int .i64 (writeOf rs).2]) ∧ Kept w w' := by
  have hsl := hs.len
  refine calls_of_at (e := ⟨Tryd.prog, 9, 38, Tryd.f9, [.tmp 2, .tmp 3], none, []⟩) Tryd.func9 rfl (by simp) rfl ?_; refine vc_sound rfl Tryd.func9 400 (.code _) _ _ ?_
  simp only [purCs, ↓vss, ↓vsk, vsk, ↓vss2, vcs3, vcs4, vals, blds, vcs5, vcs6, pures, ints, tys0, tys1, tys2, tys3, tys4, tys5, ↓reduceIte, if_true, if_false, Nat.reduceLT, Nat.reduceLeDiff, Nat.reduceEqDiff, Nat.reduceAdd, Nat.reduceMul, Nat.reduceSub, conds, readsF, readsOk, zero_ne_one_, one_ne_zero_, true_and, and_true, and_self, false_and, and_false, eq_self, reduceCtorEq, Bool.true_and, Bool.and_true, Bool.false_and, Bool.and_false, Bool.false_eq_true, Bool.true_eq_false, forall_const, true_imp_, false_imp_, imp_self, implies_true, Bool.not_true, Bool.not_false, Bool.false_or, Bool.true_or, Bool.or_false, Bool.or_true, beq_true_, beq_false_, Nat.zero_add, Nat.add_zero, fr0_cons_zero, fr0_cons_succ, fr0_0, fr0_1, fr0_2, fr0_3, fr0_4, List.map_cons, List.map_nil, List.map_toArray, Option.map_some, Option.map_none, List.append_toArray, List.nil_append, List.cons_append, List.append_nil, List.all_cons, List.all_nil, List.set_cons_zero, List.set_cons_succ, Array.getD_lit, Array.size_lit, List.reverse_cons, List.reverse_nil, Op.operands, Call.operands, List.toList_toArray, Addr.add_lit, Option.some.injEq, exists_eq_left', Value.pointer.injEq, exists_eq_left, Int.toNat_natCast, Int.reduceToNat, Nat.mul_one, List.length_cons, List.length_nil, Nat.reducePow, hsl]
  have hb0 := Bld.new w (Nat.le_refl _)
  have hk0 : Kept w (w.alloc (.cells #[.pointer none, Sl.v ⟨none, 0, 0⟩] 50)) := (Kept.refl w).alloc _
  generalize w.alloc (.cells #[.pointer none, Sl.v ⟨none, 0, 0⟩] 50) = w1 at *
  refine At.ind (fun m (i : Nat) f w' => f 0 = s.v ∧ f 4 = rp w.heap.size ∧ f 5 = .bool ((rs.take i).any (fun r => (tellOf r).isNone)) ∧ f 9 = s.v ∧ f 10 = .int .i64 rs.length ∧ f 11 = .int .i64 i ∧ m = rs.length - i ∧ i ≤ rs.length ∧ Bld w.heap.size w.heap.size (linesOf (rs.take i)) w' ∧ Kept w w') (m := rs.length) (x := 0) ?_ ?_
  · simp only [purCs, ↓vss, ↓vsk, vsk, ↓vss2, vcs3, vcs4, vals, blds, vcs5, vcs6, pures, ints, tys0, tys1, tys2, tys3, tys4, tys5, ↓reduceIte, if_true, if_false, Nat.reduceLT, Nat.reduceLeDiff, Nat.reduceEqDiff, Nat.reduceAdd, Nat.reduceMul, Nat.reduceSub, conds, readsF, readsOk, zero_ne_one_, one_ne_zero_, true_and, and_true, and_self, false_and, and_false, eq_self, reduceCtorEq, Bool.true_and, Bool.and_true, Bool.false_and, Bool.and_false, Bool.false_eq_true, Bool.true_eq_false, forall_const, true_imp_, false_imp_, imp_self, implies_true, Bool.not_true, Bool.not_false, Bool.false_or, Bool.true_or, Bool.or_false, Bool.or_true, beq_true_, beq_false_, Nat.zero_add, Nat.add_zero, fr0_cons_zero, fr0_cons_succ, fr0_0, fr0_1, fr0_2, fr0_3, fr0_4, List.map_cons, List.map_nil, List.map_toArray, Option.map_some, Option.map_none, List.append_toArray, List.nil_append, List.cons_append, List.append_nil, List.all_cons, List.all_nil, List.set_cons_zero, List.set_cons_succ, Array.getD_lit, Array.size_lit, List.reverse_cons, List.reverse_nil, Op.operands, Call.operands, List.toList_toArray, Addr.add_lit, Option.some.injEq, exists_eq_left', Value.pointer.injEq, exists_eq_left, Int.toNat_natCast, Int.reduceToNat, Nat.mul_one, List.length_cons, List.length_nil, Nat.reducePow]
    exact ⟨rfl, rfl, by simp, by simp, hb0, hk0⟩
  rintro m ih i f w2 ⟨h0, h4, h5, h9, h10, h11, hm, hi, hb, hk⟩
  refine vc_sound rfl Tryd.func9 400 (.code _) _ _ ?_
  have hlen : (linesOf rs).length ≤ 10000000 * rs.length := linesOf_len rs hS
  by_cases hlt : i < rs.length
  · have hd : decide ((i : Int) < rs.length) = true := by simp; omega
    have hiw : IntKind.i64.wrap ((i : Int) + 1) = (i : Int) + 1 := wrap_i64 (by omega) (by omega)
    obtain ⟨cs, hrA, t, c, rfl, ht, hc, hsz⟩ := (hs.keep hk).row i hlt
    have hz : elRule.z = 6 := rfl
    rw [hz] at hrA
    have ld := Loads.eq (P := Tryd.prog) (t := 36) (w := w2) (cs := ruleCells rs[i] t c) (by kernel_rfl) hrA
    simp only [purCs, ↓vss, ↓vsk, vsk, ↓vss2, vcs3, vcs4, vals, blds, vcs5, vcs6, pures, ints, tys0, tys1, tys2, tys3, tys4, tys5, ↓reduceIte, if_true, if_false, Nat.reduceLT, Nat.reduceLeDiff, Nat.reduceEqDiff, Nat.reduceAdd, Nat.reduceMul, Nat.reduceSub, conds, readsF, readsOk, zero_ne_one_, one_ne_zero_, true_and, and_true, and_self, false_and, and_false, eq_self, reduceCtorEq, Bool.true_and, Bool.and_true, Bool.false_and, Bool.and_false, Bool.false_eq_true, Bool.true_eq_false, forall_const, true_imp_, false_imp_, imp_self, implies_true, Bool.not_true, Bool.not_false, Bool.false_or, Bool.true_or, Bool.or_false, Bool.or_true, beq_true_, beq_false_, Nat.zero_add, Nat.add_zero, fr0_cons_zero, fr0_cons_succ, fr0_0, fr0_1, fr0_2, fr0_3, fr0_4, List.map_cons, List.map_nil, List.map_toArray, Option.map_some, Option.map_none, List.append_toArray, List.nil_append, List.cons_append, List.append_nil, List.all_cons, List.all_nil, List.set_cons_zero, List.set_cons_succ, Array.getD_lit, Array.size_lit, List.reverse_cons, List.reverse_nil, Op.operands, Call.operands, List.toList_toArray, Addr.add_lit, Option.some.injEq, exists_eq_left', Value.pointer.injEq, exists_eq_left, Int.toNat_natCast, Int.reduceToNat, Nat.mul_one, List.length_cons, List.length_nil, Nat.reducePow, h0, h4, h9, h10, h11, hd, ld]
    refine ⟨⟨hs.some_ hlt, by omega, by omega⟩, fresh_copy (by kernel_rfl) rfl (by simp [ruleCells, Value.oneCell', Sl.v]) ?_⟩
    intro w3 hr3 k3
    have gA := hr3.ldAll (P := Tryd.prog) (t := 36) (by kernel_rfl)
    simp only [purCs, ↓vss, ↓vsk, vsk, ↓vss2, vcs3, vcs4, vals, blds, vcs5, vcs6, pures, ints, tys0, tys1, tys2, tys3, tys4, tys5, ↓reduceIte, if_true, if_false, Nat.reduceLT, Nat.reduceLeDiff, Nat.reduceEqDiff, Nat.reduceAdd, Nat.reduceMul, Nat.reduceSub, conds, readsF, readsOk, zero_ne_one_, one_ne_zero_, true_and, and_true, and_self, false_and, and_false, eq_self, reduceCtorEq, Bool.true_and, Bool.and_true, Bool.false_and, Bool.and_false, Bool.false_eq_true, Bool.true_eq_false, forall_const, true_imp_, false_imp_, imp_self, implies_true, Bool.not_true, Bool.not_false, Bool.false_or, Bool.true_or, Bool.or_false, Bool.or_true, beq_true_, beq_false_, Nat.zero_add, Nat.add_zero, fr0_cons_zero, fr0_cons_succ, fr0_0, fr0_1, fr0_2, fr0_3, fr0_4, List.map_cons, List.map_nil, List.map_toArray, Option.map_some, Option.map_none, List.append_toArray, List.nil_append, List.cons_append, List.append_nil, List.all_cons, List.all_nil, List.set_cons_zero, List.set_cons_succ, Array.getD_lit, Array.size_lit, List.reverse_cons, List.reverse_nil, Op.operands, Call.operands, List.toList_toArray, Addr.add_lit, Option.some.injEq, exists_eq_left', Value.pointer.injEq, exists_eq_left, Int.toNat_natCast, Int.reduceToNat, Nat.mul_one, List.length_cons, List.length_nil, Nat.reducePow, gA]
    refine (tell_spec rs[i] t c w3 (hS _ (List.getElem_mem hlt)) (Is.keep ht k3) (Is.keep hc k3)).mono ?_
    rintro _ w4 ⟨sl, rfl, hm4, k4⟩
    refine kC.in_ (by kernel_rfl) ?_
    have hu : sl.a.isNone = (tellOf rs[i]).isNone ∧ Is elStr w4 sl ((tellOf rs[i]).getD []) ∧ (sl.len ≠ 0 → ∃ b o, sl.a = some ⟨b, o, none⟩) := by
      cases hto : tellOf rs[i] with
      | none => rw [hto] at hm4; simp only at hm4; rw [hm4]; exact ⟨rfl, Is.nil _ _ _ _, fun h => absurd rfl h⟩
      | some l => rw [hto] at hm4; simp only at hm4; obtain ⟨⟨b, hb⟩, h2⟩ := hm4; exact ⟨by rw [hb]; rfl, h2.is, fun _ => ⟨b, 0, hb⟩⟩
    simp only [purCs, ↓vss, ↓vsk, vsk, ↓vss2, vcs3, vcs4, vals, blds, vcs5, vcs6, pures, ints, tys0, tys1, tys2, tys3, tys4, tys5, ↓reduceIte, if_true, if_false, Nat.reduceLT, Nat.reduceLeDiff, Nat.reduceEqDiff, Nat.reduceAdd, Nat.reduceMul, Nat.reduceSub, conds, readsF, readsOk, zero_ne_one_, one_ne_zero_, true_and, and_true, and_self, false_and, and_false, eq_self, reduceCtorEq, Bool.true_and, Bool.and_true, Bool.false_and, Bool.and_false, Bool.false_eq_true, Bool.true_eq_false, forall_const, true_imp_, false_imp_, imp_self, implies_true, Bool.not_true, Bool.not_false, Bool.false_or, Bool.true_or, Bool.or_false, Bool.or_true, beq_true_, beq_false_, Nat.zero_add, Nat.add_zero, fr0_cons_zero, fr0_cons_succ, fr0_0, fr0_1, fr0_2, fr0_3, fr0_4, List.map_cons, List.map_nil, List.map_toArray, Option.map_some, Option.map_none, List.append_toArray, List.nil_append, List.cons_append, List.append_nil, List.all_cons, List.all_nil, List.set_cons_zero, List.set_cons_succ, Array.getD_lit, Array.size_lit, List.reverse_cons, List.reverse_nil, Op.operands, Call.operands, List.toList_toArray, Addr.add_lit, Option.some.injEq, exists_eq_left', Value.pointer.injEq, exists_eq_left, Int.toNat_natCast, Int.reduceToNat, Nat.mul_one, List.length_cons, List.length_nil, Nat.reducePow, h5]
    have hll := lineOf_len (hS _ (List.getElem_mem hlt))
    have hsn := linesOf_snoc rs i hlt
    have hlt2 : (linesOf (rs.take i)).length ≤ 10000000 * (rs.take i).length := linesOf_len _ (fun r hr => hS r (List.mem_of_mem_take hr))
    have htl : (rs.take i).length = i := by simp; omega
    have hnum : ((tellOf rs[i]).getD []).length ≤ 140737488355328 := by
      cases hto : tellOf rs[i] with
      | none => simp
      | some l => have := tellOf_num hto; simp only [Option.getD_some]; omega
    have hjl : (Lib.join ((tellOf rs[i]).getD []) [32]).length ≤ 10000000 := by have := hll; simp only [lineOf, List.length_append] at this; omega
    refine ⟨fun _ => .inr trivial, fun h => by rw [h]; rfl, (join_spec sl _ [32] w4 hu.2.1 hu.2.2 hnum (by omega)).mono ?_⟩
    rintro _ w5 ⟨rfl, k5⟩
    refine kC.in_ (by kernel_rfl) ?_
    have k25 : Kept w2 w5 := (k3.trans k4).trans k5
    simp only [purCs, ↓vss, ↓vsk, vsk, ↓vss2, vcs3, vcs4, vals, blds, vcs5, vcs6, pures, ints, tys0, tys1, tys2, tys3, tys4, tys5, ↓reduceIte, if_true, if_false, Nat.reduceLT, Nat.reduceLeDiff, Nat.reduceEqDiff, Nat.reduceAdd, Nat.reduceMul, Nat.reduceSub, conds, readsF, readsOk, zero_ne_one_, one_ne_zero_, true_and, and_true, and_self, false_and, and_false, eq_self, reduceCtorEq, Bool.true_and, Bool.and_true, Bool.false_and, Bool.and_false, Bool.false_eq_true, Bool.true_eq_false, forall_const, true_imp_, false_imp_, imp_self, implies_true, Bool.not_true, Bool.not_false, Bool.false_or, Bool.true_or, Bool.or_false, Bool.or_true, beq_true_, beq_false_, Nat.zero_add, Nat.add_zero, fr0_cons_zero, fr0_cons_succ, fr0_0, fr0_1, fr0_2, fr0_3, fr0_4, List.map_cons, List.map_nil, List.map_toArray, Option.map_some, Option.map_none, List.append_toArray, List.nil_append, List.cons_append, List.append_nil, List.all_cons, List.all_nil, List.set_cons_zero, List.set_cons_succ, Array.getD_lit, Array.size_lit, List.reverse_cons, List.reverse_nil, Op.operands, Call.operands, List.toList_toArray, Addr.add_lit, Option.some.injEq, exists_eq_left', Value.pointer.injEq, exists_eq_left, Int.toNat_natCast, Int.reduceToNat, Nat.mul_one, List.length_cons, List.length_nil, Nat.reducePow, str_toList, lit_str, str_size, str_byteAt, str_append, str_extract, h4]
    have hlw : (Lib.join ((tellOf rs[i]).getD []) [32] ++ [10]).length ≤ 10000000 := hll
    refine ⟨by omega, (writeString_spec w.heap.size w.heap.size (linesOf (rs.take i)) _ w5 (hb.keep k25) (by omega) (hk.trans k25).size).mono ?_⟩
    rintro _ w6 ⟨rfl, hb6, k6⟩
    refine kC.in_ (by kernel_rfl) ?_
    simp only [purCs, ↓vss, ↓vsk, vsk, ↓vss2, vcs3, vcs4, vals, blds, vcs5, vcs6, pures, ints, tys0, tys1, tys2, tys3, tys4, tys5, ↓reduceIte, if_true, if_false, Nat.reduceLT, Nat.reduceLeDiff, Nat.reduceEqDiff, Nat.reduceAdd, Nat.reduceMul, Nat.reduceSub, conds, readsF, readsOk, zero_ne_one_, one_ne_zero_, true_and, and_true, and_self, false_and, and_false, eq_self, reduceCtorEq, Bool.true_and, Bool.and_true, Bool.false_and, Bool.and_false, Bool.false_eq_true, Bool.true_eq_false, forall_const, true_imp_, false_imp_, imp_self, implies_true, Bool.not_true, Bool.not_false, Bool.false_or, Bool.true_or, Bool.or_false, Bool.or_true, beq_true_, beq_false_, Nat.zero_add, Nat.add_zero, fr0_cons_zero, fr0_cons_succ, fr0_0, fr0_1, fr0_2, fr0_3, fr0_4, List.map_cons, List.map_nil, List.map_toArray, Option.map_some, Option.map_none, List.append_toArray, List.nil_append, List.cons_append, List.append_nil, List.all_cons, List.all_nil, List.set_cons_zero, List.set_cons_succ, Array.getD_lit, Array.size_lit, List.reverse_cons, List.reverse_nil, Op.operands, Call.operands, List.toList_toArray, Addr.add_lit, Option.some.injEq, exists_eq_left', Value.pointer.injEq, exists_eq_left, Int.toNat_natCast, Int.reduceToNat, Nat.mul_one, List.length_cons, List.length_nil, Nat.reducePow, h11, hiw]
    refine ih (rs.length - (i + 1)) (i + 1) _ _ (by omega) ?_
    simp only [purCs, ↓vss, ↓vsk, vsk, ↓vss2, vcs3, vcs4, vals, blds, vcs5, vcs6, pures, ints, tys0, tys1, tys2, tys3, tys4, tys5, ↓reduceIte, if_true, if_false, Nat.reduceLT, Nat.reduceLeDiff, Nat.reduceEqDiff, Nat.reduceAdd, Nat.reduceMul, Nat.reduceSub, conds, readsF, readsOk, zero_ne_one_, one_ne_zero_, true_and, and_true, and_self, false_and, and_false, eq_self, reduceCtorEq, Bool.true_and, Bool.and_true, Bool.false_and, Bool.and_false, Bool.false_eq_true, Bool.true_eq_false, forall_const, true_imp_, false_imp_, imp_self, implies_true, Bool.not_true, Bool.not_false, Bool.false_or, Bool.true_or, Bool.or_false, Bool.or_true, beq_true_, beq_false_, Nat.zero_add, Nat.add_zero, fr0_cons_zero, fr0_cons_succ, fr0_0, fr0_1, fr0_2, fr0_3, fr0_4, List.map_cons, List.map_nil, List.map_toArray, Option.map_some, Option.map_none, List.append_toArray, List.nil_append, List.cons_append, List.append_nil, List.all_cons, List.all_nil, List.set_cons_zero, List.set_cons_succ, Array.getD_lit, Array.size_lit, List.reverse_cons, List.reverse_nil, Op.operands, Call.operands, List.toList_toArray, Addr.add_lit, Option.some.injEq, exists_eq_left', Value.pointer.injEq, exists_eq_left, Int.toNat_natCast, Int.reduceToNat, Nat.mul_one, List.length_cons, List.length_nil, Nat.reducePow, h0, h4, h9, h10, Int.natCast_add, Int.natCast_one]
    refine ⟨?_, by omega, ?_, Below.trans (hk.trans k25) k6⟩
    · congr 1
      rw [take_snoc' _ _ hlt, List.any_append, hu.1]; simp
    · rw [hsn]; exact hb6
  · have hd : decide ((i : Int) < rs.length) = false := by simp; omega
    have hiE : i = rs.length := by omega
    subst hiE
    rw [List.take_length] at hb h5
    simp only [purCs, ↓vss, ↓vsk, vsk, ↓vss2, vcs3, vcs4, vals, blds, vcs5, vcs6, pures, ints, tys0, tys1, tys2, tys3, tys4, tys5, ↓reduceIte, if_true, if_false, Nat.reduceLT, Nat.reduceLeDiff, Nat.reduceEqDiff, Nat.reduceAdd, Nat.reduceMul, Nat.reduceSub, conds, readsF, readsOk, zero_ne_one_, one_ne_zero_, true_and, and_true, and_self, false_and, and_false, eq_self, reduceCtorEq, Bool.true_and, Bool.and_true, Bool.false_and, Bool.and_false, Bool.false_eq_true, Bool.true_eq_false, forall_const, true_imp_, false_imp_, imp_self, implies_true, Bool.not_true, Bool.not_false, Bool.false_or, Bool.true_or, Bool.or_false, Bool.or_true, beq_true_, beq_false_, Nat.zero_add, Nat.add_zero, fr0_cons_zero, fr0_cons_succ, fr0_0, fr0_1, fr0_2, fr0_3, fr0_4, List.map_cons, List.map_nil, List.map_toArray, Option.map_some, Option.map_none, List.append_toArray, List.nil_append, List.cons_append, List.append_nil, List.all_cons, List.all_nil, List.set_cons_zero, List.set_cons_succ, Array.getD_lit, Array.size_lit, List.reverse_cons, List.reverse_nil, Op.operands, Call.operands, List.toList_toArray, Addr.add_lit, Option.some.injEq, exists_eq_left', Value.pointer.injEq, exists_eq_left, Int.toNat_natCast, Int.reduceToNat, Nat.mul_one, List.length_cons, List.length_nil, Nat.reducePow, h0, h4, h5, h9, h10, h11, hd]
    cases hbad : rs.any (fun r => (tellOf r).isNone) <;> simp only [purCs, ↓vss, ↓vsk, vsk, ↓vss2, vcs3, vcs4, vals, blds, vcs5, vcs6, pures, ints, tys0, tys1, tys2, tys3, tys4, tys5, ↓reduceIte, if_true, if_false, Nat.reduceLT, Nat.reduceLeDiff, Nat.reduceEqDiff, Nat.reduceAdd, Nat.reduceMul, Nat.reduceSub, conds, readsF, readsOk, zero_ne_one_, one_ne_zero_, true_and, and_true, and_self, false_and, and_false, eq_self, reduceCtorEq, Bool.true_and, Bool.and_true, Bool.false_and, Bool.and_false, Bool.false_eq_true, Bool.true_eq_false, forall_const, true_imp_, false_imp_, imp_self, implies_true, Bool.not_true, Bool.not_false, Bool.false_or, Bool.true_or, Bool.or_false, Bool.or_true, beq_true_, beq_false_, Nat.zero_add, Nat.add_zero, fr0_cons_zero, fr0_cons_succ, fr0_0, fr0_1, fr0_2, fr0_3, fr0_4, List.map_cons, List.map_nil, List.map_toArray, Option.map_some, Option.map_none, List.append_toArray, List.nil_append, List.cons_append, List.append_nil, List.all_cons, List.all_nil, List.set_cons_zero, List.set_cons_succ, Array.getD_lit, Array.size_lit, List.reverse_cons, List.reverse_nil, Op.operands, Call.operands, List.toList_toArray, Addr.add_lit, Option.some.injEq, exists_eq_left', Value.pointer.injEq, exists_eq_left, Int.toNat_natCast, Int.reduceToNat, Nat.mul_one, List.length_cons, List.length_nil, Nat.reducePow, h0, h4, hsl]
    · have hlb := Tryd.Builder_Len w.heap.size w.heap.size (Lib.byteCells (linesOf rs)) w2 hb
      have hstr := Tryd.Builder_String_any w.heap.size w.heap.size (linesOf rs) w2 hb hk.size
      cases h2000 : decide ((2000 : Int) < (rs.length : Int)) <;> simp only [purCs, ↓vss, ↓vsk, vsk, ↓vss2, vcs3, vcs4, vals, blds, vcs5, vcs6, pures, ints, tys0, tys1, tys2, tys3, tys4, tys5, ↓reduceIte, if_true, if_false, Nat.reduceLT, Nat.reduceLeDiff, Nat.reduceEqDiff, Nat.reduceAdd, Nat.reduceMul, Nat.reduceSub, conds, readsF, readsOk, zero_ne_one_, one_ne_zero_, true_and, and_true, and_self, false_and, and_false, eq_self, reduceCtorEq, Bool.true_and, Bool.and_true, Bool.false_and, Bool.and_false, Bool.false_eq_true, Bool.true_eq_false, forall_const, true_imp_, false_imp_, imp_self, implies_true, Bool.not_true, Bool.not_false, Bool.false_or, Bool.true_or, Bool.or_false, Bool.or_true, beq_true_, beq_false_, Nat.zero_add, Nat.add_zero, fr0_cons_zero, fr0_cons_succ, fr0_0, fr0_1, fr0_2, fr0_3, fr0_4, List.map_cons, List.map_nil, List.map_toArray, Option.map_some, Option.map_none, List.append_toArray, List.nil_append, List.cons_append, List.append_nil, List.all_cons, List.all_nil, List.set_cons_zero, List.set_cons_succ, Array.getD_lit, Array.size_lit, List.reverse_cons, List.reverse_nil, Op.operands, Call.operands, List.toList_toArray, Addr.add_lit, Option.some.injEq, exists_eq_left', Value.pointer.injEq, exists_eq_left, Int.toNat_natCast, Int.reduceToNat, Nat.mul_one, List.length_cons, List.length_nil, Nat.reducePow, h4]
      · refine hlb.mono ?_
        rintro _ _ ⟨rfl, rfl⟩
        refine kC.in_ (by kernel_rfl) ?_
        rw [Lib.byteCells_length]
        cases hlong : decide ((131072 : Int) < ((linesOf rs).length : Int)) <;> simp only [purCs, ↓vss, ↓vsk, vsk, ↓vss2, vcs3, vcs4, vals, blds, vcs5, vcs6, pures, ints, tys0, tys1, tys2, tys3, tys4, tys5, ↓reduceIte, if_true, if_false, Nat.reduceLT, Nat.reduceLeDiff, Nat.reduceEqDiff, Nat.reduceAdd, Nat.reduceMul, Nat.reduceSub, conds, readsF, readsOk, zero_ne_one_, one_ne_zero_, true_and, and_true, and_self, false_and, and_false, eq_self, reduceCtorEq, Bool.true_and, Bool.and_true, Bool.false_and, Bool.and_false, Bool.false_eq_true, Bool.true_eq_false, forall_const, true_imp_, false_imp_, imp_self, implies_true, Bool.not_true, Bool.not_false, Bool.false_or, Bool.true_or, Bool.or_false, Bool.or_true, beq_true_, beq_false_, Nat.zero_add, Nat.add_zero, fr0_cons_zero, fr0_cons_succ, fr0_0, fr0_1, fr0_2, fr0_3, fr0_4, List.map_cons, List.map_nil, List.map_toArray, Option.map_some, Option.map_none, List.append_toArray, List.nil_append, List.cons_append, List.append_nil, List.all_cons, List.all_nil, List.set_cons_zero, List.set_cons_succ, Array.getD_lit, Array.size_lit, List.reverse_cons, List.reverse_nil, Op.operands, Call.operands, List.toList_toArray, Addr.add_lit, Option.some.injEq, exists_eq_left', Value.pointer.injEq, exists_eq_left, Int.toNat_natCast, Int.reduceToNat, Nat.mul_one, List.length_cons, List.length_nil, Nat.reducePow, h4, hlong]
        · refine hstr.mono ?_
          rintro _ w3 ⟨rfl, k3⟩
          refine kC.in_ (by kernel_rfl) ?_
          simp only [purCs, ↓vss, ↓vsk, vsk, ↓vss2, vcs3, vcs4, vals, blds, vcs5, vcs6, pures, ints, tys0, tys1, tys2, tys3, tys4, tys5, ↓reduceIte, if_true, if_false, Nat.reduceLT, Nat.reduceLeDiff, Nat.reduceEqDiff, Nat.reduceAdd, Nat.reduceMul, Nat.reduceSub, conds, readsF, readsOk, zero_ne_one_, one_ne_zero_, true_and, and_true, and_self, false_and, and_false, eq_self, reduceCtorEq, Bool.true_and, Bool.and_true, Bool.false_and, Bool.and_false, Bool.false_eq_true, Bool.true_eq_false, forall_const, true_imp_, false_imp_, imp_self, implies_true, Bool.not_true, Bool.not_false, Bool.false_or, Bool.true_or, Bool.or_false, Bool.or_true, beq_true_, beq_false_, Nat.zero_add, Nat.add_zero, fr0_cons_zero, fr0_cons_succ, fr0_0, fr0_1, fr0_2, fr0_3, fr0_4, List.map_cons, List.map_nil, List.map_toArray, Option.map_some, Option.map_none, List.append_toArray, List.nil_append, List.cons_append, List.append_nil, List.all_cons, List.all_nil, List.set_cons_zero, List.set_cons_succ, Array.getD_lit, Array.size_lit, List.reverse_cons, List.reverse_nil, Op.operands, Call.operands, List.toList_toArray, Addr.add_lit, Option.some.injEq, exists_eq_left', Value.pointer.injEq, exists_eq_left, Int.toNat_natCast, Int.reduceToNat, Nat.mul_one, List.length_cons, List.length_nil, Nat.reducePow, h4]
          refine ⟨?_, Below.trans hk k3⟩
          have : writeOf rs = (linesOf rs, 0) := by rw [writeOf, if_neg (by rw [hbad]; decide), if_neg (by simp at h2000 hlong; omega)]
          rw [this]; rfl
        · refine ⟨?_, hk⟩
          have : writeOf rs = ([], 3) := by rw [writeOf, if_neg (by rw [hbad]; decide), if_pos (by simp at hlong; omega)]
          rw [this]; rfl
      · refine ⟨?_, hk⟩
        have : writeOf rs = ([], 3) := by rw [writeOf, if_neg (by rw [hbad]; decide), if_pos (by simp at h2000; omega)]
        rw [this]; rfl
    · refine ⟨?_, hk⟩
      have : writeOf rs = ([], 2) := by rw [writeOf, if_pos hbad]
      rw [this]; rfl
end Go.Proofs.YtcjdbmcklemkkaaDoor
