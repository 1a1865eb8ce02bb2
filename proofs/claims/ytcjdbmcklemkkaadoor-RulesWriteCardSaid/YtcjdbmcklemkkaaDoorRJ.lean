/- Contracts of inner functions of the program, and what they compute: parts of a proof. -/
import Derived.Test.YtcjdbmcklemkkaaDoorRI
import Derived.Test.YtcjdbmcklemkkaaDoorRQ
namespace Go.Proofs.YtcjdbmcklemkkaaDoor
open Go Go.Proofs Go.Vc Go.RowKit
set_option maxRecDepth 100000
set_option linter.unusedSimpArgs false
set_option linter.unusedVariables false


set_option maxHeartbeats 2000000 in
theorem words_spec (s : List UInt8) (w : World) (hs : s.length ≤ 1000000) :
    Calls Tryd.prog 16 #[.string (str s)] w fun x w' => ∃ t : Sl, x = .returned t.v ∧ New elStr w w' t (wordsOf s) ∧ Kept w w' := by
  refine calls_of_at (e := ⟨Tryd.prog, 16, 17, Tryd.f16, [.tmp 2], none, []⟩) Tryd.func16 rfl (by simp) rfl ?_; refine vc_sound rfl Tryd.func16 400 (.code _) _ _ ?_
  simp only [↓vcs, ↓vcs2, vcs3, vcs4, vals, blds, vcs5, vcs6, pures, ints, tys0, tys1, tys2, tys3, tys4, tys5, ↓reduceIte, if_true, if_false, Nat.reduceLT, Nat.reduceLeDiff, Nat.reduceEqDiff, Nat.reduceAdd, Nat.reduceMul, Nat.reduceSub, conds, readsF, readsOk, zero_ne_one_, one_ne_zero_, true_and, and_true, and_self, false_and, and_false, eq_self, reduceCtorEq, Bool.true_and, Bool.and_true, Bool.false_and, Bool.and_false, Bool.false_eq_true, Bool.true_eq_false, forall_const, true_imp_, false_imp_, imp_self, implies_true, Bool.not_true, Bool.not_false, Bool.false_or, Bool.true_or, Bool.or_false, Bool.or_true, beq_true_, beq_false_, Nat.zero_add, Nat.add_zero, fr0_cons_zero, fr0_cons_succ, fr0_0, fr0_1, fr0_2, fr0_3, fr0_4, List.map_cons, List.map_nil, List.map_toArray, Option.map_some, Option.map_none, List.append_toArray, List.nil_append, List.cons_append, List.append_nil, List.all_cons, List.all_nil, List.set_cons_zero, List.set_cons_succ, Array.getD_lit, Array.size_lit, List.reverse_cons, List.reverse_nil, Op.operands, Call.operands, List.toList_toArray, Addr.add_lit, Option.some.injEq, exists_eq_left', Value.pointer.injEq, exists_eq_left, Int.toNat_natCast, Int.reduceToNat, Nat.mul_one, loads, List.length_cons, List.length_nil, Nat.reducePow, str_toList, lit_str, str_size, str_byteAt, str_append, str_extract]
  refine (splitSeq_spec s 32 _).mono ?_
  rintro _ w1 ⟨rfl, hp, hq, hr, hsz, hk1⟩
  refine ⟨_, rfl, ?_⟩
  have hb1 : Row w1 w.heap.size 43 [Sl.v ⟨none, 0, 0⟩] := (Row.new w 43 [Sl.v ⟨none, 0, 0⟩]).keep hk1
  have hk : Kept w w1 := ((Kept.refl w).alloc _).trans hk1
  have hsw : (w.alloc (.cells [Sl.v ⟨none, 0, 0⟩].toArray 43)).heap.size = w.heap.size + 1 := by simp only [World.alloc, Array.size_push]
  rw [hsw] at hp hq hr hsz ⊢
  refine At.range rfl rfl rfl (by kernel_rfl) ?_
  intro a rec w2 ha e1 e2 e3 e4 e5 e6 e7 hL hD hkl hsz2
  have h3 := ha.2.1 3
  simp only [↓vcs, ↓vcs2, vcs3, vcs4, vals, blds, vcs5, vcs6, pures, ints, tys0, tys1, tys2, tys3, tys4, tys5, ↓reduceIte, if_true, if_false, Nat.reduceLT, Nat.reduceLeDiff, Nat.reduceEqDiff, Nat.reduceAdd, Nat.reduceMul, Nat.reduceSub, conds, readsF, readsOk, zero_ne_one_, one_ne_zero_, true_and, and_true, and_self, false_and, and_false, eq_self, reduceCtorEq, Bool.true_and, Bool.and_true, Bool.false_and, Bool.and_false, Bool.false_eq_true, Bool.true_eq_false, forall_const, true_imp_, false_imp_, imp_self, implies_true, Bool.not_true, Bool.not_false, Bool.false_or, Bool.true_or, Bool.or_false, Bool.or_true, beq_true_, beq_false_, Nat.zero_add, Nat.add_zero, fr0_cons_zero, fr0_cons_succ, fr0_0, fr0_1, fr0_2, fr0_3, fr0_4, List.map_cons, List.map_nil, List.map_toArray, Option.map_some, Option.map_none, List.append_toArray, List.nil_append, List.cons_append, List.append_nil, List.all_cons, List.all_nil, List.set_cons_zero, List.set_cons_succ, Array.getD_lit, Array.size_lit, List.reverse_cons, List.reverse_nil, Op.operands, Call.operands, List.toList_toArray, Addr.add_lit, Option.some.injEq, exists_eq_left', Value.pointer.injEq, exists_eq_left, Int.toNat_natCast, Int.reduceToNat, Nat.mul_one, loads, List.length_cons, List.length_nil, Nat.reducePow] at h3
  refine Calls.mono (iter_spec (w1.heap.size + 1) (w.heap.size + 1) (w.heap.size + 1 + 1) (w.heap.size + 1 + 2) (by omega) (by omega) s 32 _
    (fun pre W => ∃ (out : Sl) (wl : List (List UInt8)), Row W w.heap.size 43 [out.v] ∧ (Vc.Own W w2.heap.size 9 1 out (wl.flatMap fStr) ∧ Kept w W) ∧ (∀ rest, wordsGo (pre ++ rest) = wl ++ wordsGo rest) ∧
      W.heap[w1.heap.size + 1]? = some (.loop rec) ∧ W.heap[w1.heap.size]? = some (.deferred (some [])) ∧ wl.length ≤ pre.length)
    (fun pre W => ∃ (out : Sl) (wl : List (List UInt8)), Row W w.heap.size 43 [out.v] ∧ (Vc.Own W w2.heap.size 9 1 out (wl.flatMap fStr) ∧ Kept w W) ∧ (∀ rest, wordsGo (pre ++ rest) = wl) ∧
      W.heap[w1.heap.size + 1]? = some (.loop { rec with state := .done, pending := some (.exit 0) }) ∧ W.heap[w1.heap.size]? = some (.deferred (some [])))
    ?_ hs (hp.keep hkl) (hq.keep hkl) (hr.keep hkl) ⟨⟨none, 0, 0⟩, [], hb1.keep hkl, ⟨Vc.Own.nil _ _ _ _, hk.trans hkl⟩, fun _ => rfl, hL, hD, Nat.zero_le _⟩) ?_
  · refine ⟨?_, ?_, ?_⟩
    · rintro pre x W hpre ⟨out, wl, hrow, hm, hw, hL3, hD3, hn⟩
      refine ⟨rec, hL3, by rw [e3]; rfl, ?_⟩
      refine round_of (e := ⟨Tryd.prog, 16, 17, Tryd.f16, [.tmp 2], some (w1.heap.size + 1), []⟩) rfl rfl ha e1 e2 e3 e4 e5 ?_
      refine vc_sound rfl Tryd.func16 400 (.code _) _ _ ?_
      simp only [↓vcs, ↓vcs2, vcs3, vcs4, vals, blds, vcs5, vcs6, pures, ints, tys0, tys1, tys2, tys3, tys4, tys5, ↓reduceIte, if_true, if_false, Nat.reduceLT, Nat.reduceLeDiff, Nat.reduceEqDiff, Nat.reduceAdd, Nat.reduceMul, Nat.reduceSub, conds, readsF, readsOk, zero_ne_one_, one_ne_zero_, true_and, and_true, and_self, false_and, and_false, eq_self, reduceCtorEq, Bool.true_and, Bool.and_true, Bool.false_and, Bool.and_false, Bool.false_eq_true, Bool.true_eq_false, forall_const, true_imp_, false_imp_, imp_self, implies_true, Bool.not_true, Bool.not_false, Bool.false_or, Bool.true_or, Bool.or_false, Bool.or_true, beq_true_, beq_false_, Nat.zero_add, Nat.add_zero, fr0_cons_zero, fr0_cons_succ, fr0_0, fr0_1, fr0_2, fr0_3, fr0_4, List.map_cons, List.map_nil, List.map_toArray, Option.map_some, Option.map_none, List.append_toArray, List.nil_append, List.cons_append, List.append_nil, List.all_cons, List.all_nil, List.set_cons_zero, List.set_cons_succ, Array.getD_lit, Array.size_lit, List.reverse_cons, List.reverse_nil, Op.operands, Call.operands, List.toList_toArray, Addr.add_lit, Option.some.injEq, exists_eq_left', Value.pointer.injEq, exists_eq_left, Int.toNat_natCast, Int.reduceToNat, Nat.mul_one, loads, List.length_cons, List.length_nil, Nat.reducePow]
      refine At.beginRound rfl (runBegin hL3 e6) ?_
      refine vc_sound rfl Tryd.func16 400 (.code _) _ _ ?_
      simp only [↓vcs, ↓vcs2, vcs3, vcs4, vals, blds, vcs5, vcs6, pures, ints, tys0, tys1, tys2, tys3, tys4, tys5, ↓reduceIte, if_true, if_false, Nat.reduceLT, Nat.reduceLeDiff, Nat.reduceEqDiff, Nat.reduceAdd, Nat.reduceMul, Nat.reduceSub, conds, readsF, readsOk, zero_ne_one_, one_ne_zero_, true_and, and_true, and_self, false_and, and_false, eq_self, reduceCtorEq, Bool.true_and, Bool.and_true, Bool.false_and, Bool.and_false, Bool.false_eq_true, Bool.true_eq_false, forall_const, true_imp_, false_imp_, imp_self, implies_true, Bool.not_true, Bool.not_false, Bool.false_or, Bool.true_or, Bool.or_false, Bool.or_true, beq_true_, beq_false_, Nat.zero_add, Nat.add_zero, fr0_cons_zero, fr0_cons_succ, fr0_0, fr0_1, fr0_2, fr0_3, fr0_4, List.map_cons, List.map_nil, List.map_toArray, Option.map_some, Option.map_none, List.append_toArray, List.nil_append, List.cons_append, List.append_nil, List.all_cons, List.all_nil, List.set_cons_zero, List.set_cons_succ, Array.getD_lit, Array.size_lit, List.reverse_cons, List.reverse_nil, Op.operands, Call.operands, List.toList_toArray, Addr.add_lit, Option.some.injEq, exists_eq_left', Value.pointer.injEq, exists_eq_left, Int.toNat_natCast, Int.reduceToNat, Nat.mul_one, loads, List.length_cons, List.length_nil, Nat.reducePow]
      have b1 := setO_but W (w1.heap.size + 1) (.loop { rec with state := .busy })
      have l1 := setO_at (o' := .loop { rec with state := .busy }) hL3
      have hLne : w.heap.size ≠ w1.heap.size + 1 := by omega
      have r1 : Row (setO W (w1.heap.size + 1) (.loop { rec with state := .busy })) w.heap.size 43 [out.v] := (b1.block _ hrow.lt hLne).trans hrow
      have m1 := hm.1.but (k := w1.heap.size + 1) (by omega) b1
      have k1 := KeptBut.kept hm.2 b1 (by omega)
      have d1 := (b1.block _ (Array.getElem?_eq_some_iff.1 hD3).1 (by omega)).trans hD3
      have hLlt : w1.heap.size + 1 < W.heap.size := (Array.getElem?_eq_some_iff.1 hL3).1
      have hrec : { ({ rec with state := .busy } : Loop) with state := if (none : Option Code).isNone = true then LoopState.ready else .done, pending := none } = rec := by cases rec; simp only at e6 e7; subst e6; subst e7; rfl
      have hpl : pre.length + 1 ≤ (splitL 32 s).length := by have := hpre.length_le; simpa using this
      have hsn := splitL_num 32 s
      have hxs : x ∈ splitL 32 s := hpre.subset (by simp)
      generalize setO W (w1.heap.size + 1) (.loop { rec with state := .busy }) = W1 at b1 l1 r1 m1 d1 k1
      refine (Tryd.strings_HasPrefix _ _ _).mono ?_
      rintro _ W1 ⟨rfl, rfl⟩
      refine ⟨_, rfl, ?_⟩
      cases hpx : ([35] : List UInt8).isPrefixOf x
      · have hpx' : Lib.hasPrefix (str x).data.toList (str [35]).data.toList = false := hpx
        rw [if_neg (by simpa using hpx')]
        by_cases hx0 : x = []
        · subst hx0
          rw [if_neg (by simp)]
          have b2 := setO_but W1 (w1.heap.size + 1) (.loop { ({ rec with state := .busy } : Loop) with state := if (none : Option Code).isNone = true then LoopState.ready else .done, pending := none })
          refine ⟨_, _, runEnd l1 none, fun b hb => (b2.block b (by have := b1.size; omega) (by omega)).trans (b1.block b (by omega) (by omega)), .inl ⟨rfl, out, wl, (b2.block _ r1.lt hLne).trans r1, ⟨m1.but (by omega) b2, KeptBut.kept k1 b2 (by omega)⟩, fun rest => ?_, ?_, (b2.block _ (Array.getElem?_eq_some_iff.1 d1).1 (by omega)).trans d1, by simp; omega⟩⟩
          · rw [List.append_assoc, hw]
            rfl
          · rw [setO_at l1, hrec]
        · rw [if_pos (by simpa [str_toList] using hx0)]
          refine ⟨out, r1.at_ rfl, ?_⟩
          have hol := m1.len
          rw [flatMap_len fStr_len] at hol
          obtain ⟨s', w4, a1, a2, _, a3⟩ := append1 (ty := 43) app43 m1 (fStr x) rfl (fStr_one x) (by omega) (by have := b1.size; omega)
          have r4 : Row w4 w.heap.size 43 [out.v] := m1.other a3 r1 (.inr (by omega))
          have l4 := m1.other a3 l1 (.inr (by omega))
          have d4 := m1.other a3 d1 (.inr (by omega))
          have b4 := setRow_but w4 w.heap.size (([out.v] : List Value).set 0 s'.v).toArray
          have r5 := r4.set (([out.v] : List Value).set 0 s'.v)
          have m5 := a2.but (k := w.heap.size) (by omega) b4
          have k4 : Kept w w4 := k1.own (m1.down (by omega)) a3
          have k5 := KeptBut.kept k4 b4 (Nat.le_refl _)
          have l5 := (setRow_other w4 w.heap.size (w1.heap.size + 1) (([out.v] : List Value).set 0 s'.v).toArray (by omega)).trans l4
          have d5 := (setRow_other w4 w.heap.size w1.heap.size (([out.v] : List Value).set 0 s'.v).toArray (by omega)).trans d4
          refine ⟨s', w4, a1, _, run_store1 (by kernel_rfl) r4 (by simp) rfl, ?_⟩
          have hsz1 := b1.size
          have hsz4 := a3.size
          generalize w4.setRow w.heap.size (([out.v] : List Value).set 0 s'.v).toArray = w5 at b4 r5 m5 l5 d5 k5
          have b6 := setO_but w5 (w1.heap.size + 1) (.loop { ({ rec with state := .busy } : Loop) with state := if (none : Option Code).isNone = true then LoopState.ready else .done, pending := none })
          have hsz5 := b4.size
          refine ⟨_, _, runEnd l5 none, fun b hb => ?_, .inl ⟨rfl, s', wl ++ [x], (b6.block _ r5.lt hLne).trans r5, ⟨by simpa [List.flatMap_append] using m5.but (k := w1.heap.size + 1) (by omega) b6, KeptBut.kept k5 b6 (by omega)⟩, fun rest => ?_, ?_, (b6.block _ (Array.getElem?_eq_some_iff.1 d5).1 (by omega)).trans d5, by simp; omega⟩⟩
          · have hb4 : w4.heap[b]? = W1.heap[b]? := by
              cases hbb : W1.heap[b]? with
              | none => rw [Array.getElem?_eq_none_iff] at hbb; omega
              | some o => exact m1.other a3 hbb (.inr (by omega))
            exact (b6.block b (by omega) (by omega)).trans ((b4.block b (by omega) (by omega)).trans (hb4.trans (b1.block b (by omega) (by omega))))
          · rw [List.append_assoc, hw, List.singleton_append, wordsGo, if_neg (by rw [hpx]; decide), if_neg hx0]; simp
          · rw [setO_at l5, hrec]
      · have hpx' : Lib.hasPrefix (str x).data.toList (str [35]).data.toList = true := hpx
        rw [if_pos hpx']
        have b2 := setO_but W1 (w1.heap.size + 1) (.loop { ({ rec with state := .busy } : Loop) with state := if (some (Code.exit 0)).isNone = true then LoopState.ready else .done, pending := some (.exit 0) })
        refine ⟨_, _, runEnd l1 (some (.exit 0)), fun b hb => (b2.block b (by have := b1.size; omega) (by omega)).trans (b1.block b (by omega) (by omega)), .inr ⟨rfl, out, wl, (b2.block _ r1.lt hLne).trans r1, ⟨m1.but (by omega) b2, KeptBut.kept k1 b2 (by omega)⟩, fun rest => ?_, setO_at l1, (b2.block _ (Array.getElem?_eq_some_iff.1 d1).1 (by omega)).trans d1⟩⟩
        rw [List.append_assoc, hw, List.singleton_append, wordsGo, if_pos hpx, List.append_nil]
    · rintro pre W W' ⟨out, wl, hrow, hm, hw, hL3, hD3, hn⟩ hkb
      exact ⟨out, wl, (hkb.block _ hrow.lt (by omega)).trans hrow, ⟨hm.1.but (by omega) hkb, KeptBut.kept hm.2 hkb (by omega)⟩, hw, (hkb.block _ (Array.getElem?_eq_some_iff.1 hL3).1 (by omega)).trans hL3, (hkb.block _ (Array.getElem?_eq_some_iff.1 hD3).1 (by omega)).trans hD3, hn⟩
    · rintro pre W W' ⟨out, wl, hrow, hm, hw, hL3, hD3⟩ hkb
      exact ⟨out, wl, (hkb.block _ hrow.lt (by omega)).trans hrow, ⟨hm.1.but (by omega) hkb, KeptBut.kept hm.2 hkb (by omega)⟩, hw, (hkb.block _ (Array.getElem?_eq_some_iff.1 hL3).1 (by omega)).trans hL3, (hkb.block _ (Array.getElem?_eq_some_iff.1 hD3).1 (by omega)).trans hD3⟩
  · have hfin : ∀ (w3 : World) (out : Sl) (rec' rec2 : Loop), Row w3 w.heap.size 43 [out.v] → (Vc.Own w3 w2.heap.size 9 1 out ((wordsOf s).flatMap fStr) ∧ Kept w w3) → w3.heap[w1.heap.size + 1]? = some (.loop rec') → w3.heap[w1.heap.size]? = some (.deferred (some [])) →
        Row (setO w3 (w1.heap.size + 1) (.loop rec2)) w.heap.size 43 [out.v] ∧ (Instr.takeDeferred w1.heap.size).run Tryd.prog (setO w3 (w1.heap.size + 1) (.loop rec2)) = .ok [] (setO (setO w3 (w1.heap.size + 1) (.loop rec2)) w1.heap.size (.deferred none)) ∧
        New elStr w (setO (setO w3 (w1.heap.size + 1) (.loop rec2)) w1.heap.size (.deferred none)) out (wordsOf s) ∧ Kept w (setO (setO w3 (w1.heap.size + 1) (.loop rec2)) w1.heap.size (.deferred none)) := by
      intro w3 out rec' rec2 hrow hm hL3 hD3
      have b1 := setO_but w3 (w1.heap.size + 1) (.loop rec2)
      have hD4 : (setO w3 (w1.heap.size + 1) (.loop rec2)).heap[w1.heap.size]? = some (.deferred (some [])) := (b1.block _ (Array.getElem?_eq_some_iff.1 hD3).1 (by omega)).trans hD3
      have b2 := setO_but (setO w3 (w1.heap.size + 1) (.loop rec2)) w1.heap.size (.deferred none)
      have m1 := Mine.butObj ⟨hm.1.down (by omega), hm.2⟩ hL3 (by intro c fz h; cases h) (by omega) b1
      have m2 := m1.butObj hD4 (by intro c fz h; cases h) (by omega) b2
      have hnum : (wordsOf s).length ≤ s.length + 1 := Nat.le_trans (wordsGo_num _) (splitL_num _ _)
      refine ⟨(b1.block _ hrow.lt (by omega)).trans hrow, run_takeD hD4, m2.newStr (by omega) ?_, m2.kept⟩
      intro x hx
      have := splitL_len (wordsGo_mem _ _ hx)
      unfold big; omega
    rintro _ w3 ⟨rfl, h⟩
    rcases h with ⟨out, wl, hrow, hm, hw, hL3, hD3, hn⟩ | ⟨pre, hpre, out, wl, hrow, hm, hw, hL3, hD3⟩
    · have hwl : wl = wordsOf s := by have := hw []; rw [List.append_nil] at this; rw [wordsOf, this]; simp [wordsGo]
      subst hwl
      refine ⟨_, _, _, rfl, runEndLoop hL3 (by rw [e6]; intro h; cases h), ?_⟩
      rw [e7]
      refine vc_sound (e := ⟨Tryd.prog, 16, 17, Tryd.f16, [.tmp 2], none, [Vc.mark w1.heap.size]⟩) rfl Tryd.func16 400 (.code _) _ _ ?_
      simp only [↓vcs, ↓vcs2, vcs3, vcs4, vals, blds, vcs5, vcs6, pures, ints, tys0, tys1, tys2, tys3, tys4, tys5, ↓reduceIte, if_true, if_false, Nat.reduceLT, Nat.reduceLeDiff, Nat.reduceEqDiff, Nat.reduceAdd, Nat.reduceMul, Nat.reduceSub, conds, readsF, readsOk, zero_ne_one_, one_ne_zero_, true_and, and_true, and_self, false_and, and_false, eq_self, reduceCtorEq, Bool.true_and, Bool.and_true, Bool.false_and, Bool.and_false, Bool.false_eq_true, Bool.true_eq_false, forall_const, true_imp_, false_imp_, imp_self, implies_true, Bool.not_true, Bool.not_false, Bool.false_or, Bool.true_or, Bool.or_false, Bool.or_true, beq_true_, beq_false_, Nat.zero_add, Nat.add_zero, fr0_cons_zero, fr0_cons_succ, fr0_0, fr0_1, fr0_2, fr0_3, fr0_4, List.map_cons, List.map_nil, List.map_toArray, Option.map_some, Option.map_none, List.append_toArray, List.nil_append, List.cons_append, List.append_nil, List.all_cons, List.all_nil, List.set_cons_zero, List.set_cons_succ, Array.getD_lit, Array.size_lit, List.reverse_cons, List.reverse_nil, Op.operands, Call.operands, List.toList_toArray, Addr.add_lit, Option.some.injEq, exists_eq_left', Value.pointer.injEq, exists_eq_left, Int.toNat_natCast, Int.reduceToNat, Nat.mul_one, loads, List.length_cons, List.length_nil, Nat.reducePow, Option.map_none, Option.toList_none]
      obtain ⟨f1, f2, f3, f4⟩ := hfin w3 out _ { rec with state := .exhausted, pending := none } hrow hm hL3 hD3
      exact ⟨out, f1.at_ rfl, _, _, rfl, f2, out, rfl, f3, f4⟩
    · have hwl : wl = wordsOf s := by
        obtain ⟨rest, hr⟩ := hpre
        rw [wordsOf, ← hr, hw rest]
      subst hwl
      refine ⟨_, _, _, rfl, runEndLoop hL3 (by intro h; cases h), ?_⟩
      refine vc_sound (e := ⟨Tryd.prog, 16, 17, Tryd.f16, [.tmp 2], none, [Vc.mark w1.heap.size]⟩) rfl Tryd.func16 400 (.code _) _ _ ?_
      simp only [↓vcs, ↓vcs2, vcs3, vcs4, vals, blds, vcs5, vcs6, pures, ints, tys0, tys1, tys2, tys3, tys4, tys5, ↓reduceIte, if_true, if_false, Nat.reduceLT, Nat.reduceLeDiff, Nat.reduceEqDiff, Nat.reduceAdd, Nat.reduceMul, Nat.reduceSub, conds, readsF, readsOk, zero_ne_one_, one_ne_zero_, true_and, and_true, and_self, false_and, and_false, eq_self, reduceCtorEq, Bool.true_and, Bool.and_true, Bool.false_and, Bool.and_false, Bool.false_eq_true, Bool.true_eq_false, forall_const, true_imp_, false_imp_, imp_self, implies_true, Bool.not_true, Bool.not_false, Bool.false_or, Bool.true_or, Bool.or_false, Bool.or_true, beq_true_, beq_false_, Nat.zero_add, Nat.add_zero, fr0_cons_zero, fr0_cons_succ, fr0_0, fr0_1, fr0_2, fr0_3, fr0_4, List.map_cons, List.map_nil, List.map_toArray, Option.map_some, Option.map_none, List.append_toArray, List.nil_append, List.cons_append, List.append_nil, List.all_cons, List.all_nil, List.set_cons_zero, List.set_cons_succ, Array.getD_lit, Array.size_lit, List.reverse_cons, List.reverse_nil, Op.operands, Call.operands, List.toList_toArray, Addr.add_lit, Option.some.injEq, exists_eq_left', Value.pointer.injEq, exists_eq_left, Int.toNat_natCast, Int.reduceToNat, Nat.mul_one, loads, List.length_cons, List.length_nil, Nat.reducePow, Option.map_some, Option.toList_some]
      obtain ⟨f1, f2, f3, f4⟩ := hfin w3 out _ { rec with state := .exhausted, pending := some (.exit 0) } hrow hm hL3 hD3
      exact ⟨out, f1.at_ rfl, _, _, rfl, f2, out, rfl, f3, f4⟩
end Go.Proofs.YtcjdbmcklemkkaaDoor
