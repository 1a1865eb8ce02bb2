/- Contracts of inner functions of the program, and what they compute: parts of a proof. -/
import Derived.Test.YtcjdbmcklemkkaaDoorRF
namespace Go.Proofs.YtcjdbmcklemkkaaDoor
open Go Go.Proofs Go.Vc Go.RowKit
set_option maxRecDepth 100000
set_option linter.unusedSimpArgs false
set_option linter.unusedVariables false


def fcl (f : FormV) (s : Sl) : List Value := [.string (str f.word), .int .u8 f.kind.toNat, s.v, .func (.func (tellFn f.tell)) #[] #[]]
set_option maxHeartbeats 4000000 in
theorem forms_spec (w : World) : Calls Tryd.prog 30 #[] w fun x w' => ∃ s : Sl, x = .returned s.v ∧ New elForm w w' s formsL ∧ Kept w w' := by
  refine calls_of_at (e := ⟨Tryd.prog, 30, 26, Tryd.f30, [.tmp 0], none, []⟩) Tryd.func30 rfl (by simp) rfl ?_; refine vc_sound rfl Tryd.func30 400 (.code _) _ _ ?_
  simp (maxSteps := 2000000) only [↓vcs, ↓vcs2, vcs3, vcs4, vals, blds, vcs5, vcs6, pures, ints, tys0, tys1, tys2, tys3, tys4, tys5, ↓reduceIte, if_true, if_false, Nat.reduceLT, Nat.reduceLeDiff, Nat.reduceEqDiff, Nat.reduceAdd, Nat.reduceMul, Nat.reduceSub, conds, readsF, readsOk, zero_ne_one_, one_ne_zero_, true_and, and_true, and_self, false_and, and_false, eq_self, reduceCtorEq, Bool.true_and, Bool.and_true, Bool.false_and, Bool.and_false, Bool.false_eq_true, Bool.true_eq_false, forall_const, true_imp_, false_imp_, imp_self, implies_true, Bool.not_true, Bool.not_false, Bool.false_or, Bool.true_or, Bool.or_false, Bool.or_true, beq_true_, beq_false_, Nat.zero_add, Nat.add_zero, fr0_cons_zero, fr0_cons_succ, fr0_0, fr0_1, fr0_2, fr0_3, fr0_4, List.map_cons, List.map_nil, List.map_toArray, Option.map_some, Option.map_none, List.append_toArray, List.nil_append, List.cons_append, List.append_nil, List.all_cons, List.all_nil, List.set_cons_zero, List.set_cons_succ, Array.getD_lit, Array.size_lit, List.reverse_cons, List.reverse_nil, Op.operands, Call.operands, List.toList_toArray, Addr.add_lit, Option.some.injEq, exists_eq_left', Value.pointer.injEq, exists_eq_left, Int.toNat_natCast, Int.reduceToNat, Nat.mul_one, loads, List.length_cons, List.length_nil, Nat.reducePow]
  refine (textmk_spec 1 200 _).mono ?_
  rintro _ w1 ⟨v1, rfl, c1, r1, k1⟩
  refine ⟨_, rfl, by rw [c1]; rfl, (textmk_spec 1 1 _).mono ?_⟩
  rintro _ w2 ⟨v2, rfl, c2, r2, k2⟩
  refine ⟨_, rfl, (cellsmk_spec 1 8 _).mono ?_⟩
  rintro _ w3 ⟨v3, rfl, c3, r3, k3⟩
  refine ⟨_, rfl, ?_⟩
  rw [c1] at k2 r2
  rw [c2, c3]
  refine ⟨⟨rfl, rfl⟩, (textmk_spec 1 16 _).mono ?_⟩
  rintro _ w4 ⟨v4, rfl, c4, r4, k4⟩
  refine ⟨_, rfl, (cellsmk_spec 1 8 _).mono ?_⟩
  rintro _ w5 ⟨v5, rfl, c5, r5, k5⟩
  refine ⟨_, rfl, ?_⟩
  rw [c4, c5]
  refine ⟨⟨rfl, rfl⟩, (cellsmk_spec 1 8 _).mono ?_⟩
  rintro _ w6 ⟨v6, rfl, c6, r6, k6⟩
  refine ⟨_, rfl, ?_⟩
  rw [c6]
  refine ⟨rfl, (cellsmk_spec 1 1 _).mono ?_⟩
  rintro _ w7 ⟨v7, rfl, c7, r7, k7⟩
  refine ⟨_, rfl, ?_⟩
  rw [c7]
  refine ⟨rfl, (cellsmk_spec 16 16 _).mono ?_⟩
  rintro _ w8 ⟨v8, rfl, c8, r8, k8⟩
  refine ⟨_, rfl, ?_⟩
  rw [c8]
  have ka : ∀ (w : World) o, Kept w (w.alloc o) := fun w o => (Kept.refl w).alloc o
  have kA := (ka w1 (.cells [.func (.func 51) #[] #[], v1].toArray 68))
  have kB := (ka w3 (.cells [v2, v3].toArray 68))
  have kC := (ka w5 (.cells [v4, v5, .func (.func 57) #[] #[], .func (.func 58) #[] #[]].toArray 68))
  have kD := (ka w6 (.cells [v6].toArray 68))
  have kE := (ka w7 (.cells [v7].toArray 68))
  have kF := (ka w8 (.cells [v8].toArray 68))
  have K1 := k1
  have KA := K1.trans kA
  have K2 := KA.trans k2
  have K3 := K2.trans k3
  have KB := K3.trans kB
  have K4 := KB.trans k4
  have K5 := K4.trans k5
  have KC := K5.trans kC
  have K6 := KC.trans k6
  have KD := K6.trans kD
  have K7 := KD.trans k7
  have KE := K7.trans kE
  have K8 := KE.trans k8
  have hF := New.b1 (E := elRd) (W := w) K8.size 68 (elRd.keep r8 (Kept.refl _) KE.size)
  have hE := (New.b1 (E := elRd) (W := w) K7.size 68 (elRd.keep r7 (Kept.refl _) KD.size)).keep (k8.trans kF)
  have hD := (New.b1 (E := elRd) (W := w) K6.size 68 (elRd.keep r6 (Kept.refl _) KC.size)).keep (k7.trans (kE.trans (k8.trans kF)))
  have hC := (New.b4 (E := elRd) (W := w) K5.size 68 (x3 := .left) (x4 := .right) (c3 := [.func (.func 57) #[] #[]]) (c4 := [.func (.func 58) #[] #[]]) (elRd.keep r4 k5 KB.size) (elRd.keep r5 (Kept.refl _) K4.size) rfl rfl).keep (k6.trans (kD.trans (k7.trans (kE.trans (k8.trans kF)))))
  have hB := (New.b2 (E := elRd) (W := w) K3.size 68 (elRd.keep r2 k3 KA.size) (elRd.keep r3 (Kept.refl _) K2.size)).keep (k4.trans (k5.trans (kC.trans (k6.trans (kD.trans (k7.trans (kE.trans (k8.trans kF))))))))
  have hA := (New.b2 (E := elRd) (W := w) K1.size 68 (x1 := .name) (c1 := [.func (.func 51) #[] #[]]) rfl (elRd.keep r1 (Kept.refl _) (Nat.le_refl _))).keep (k2.trans (k3.trans (kB.trans (k4.trans (k5.trans (kC.trans (k6.trans (kD.trans (k7.trans (kE.trans (k8.trans kF)))))))))))
  have hW := (K8.trans kF).size
  refine ⟨rfl, _, rfl, ?_, (K8.trans kF).trans (ka _ _)⟩
  have hN := New.build (E := elForm) (W := w) hW 67 (l := formsL) [fcl (formsL[0]) ⟨some ⟨w1.heap.size, 0, none⟩, 2, 2⟩, fcl (formsL[1]) ⟨some ⟨w3.heap.size, 0, none⟩, 2, 2⟩, fcl (formsL[2]) ⟨some ⟨w5.heap.size, 0, none⟩, 4, 4⟩, fcl (formsL[3]) ⟨some ⟨w6.heap.size, 0, none⟩, 1, 1⟩, fcl (formsL[4]) ⟨some ⟨w7.heap.size, 0, none⟩, 1, 1⟩, fcl (formsL[5]) ⟨some ⟨w8.heap.size, 0, none⟩, 1, 1⟩] rfl 6 rfl (by decide) rfl (by
    intro i hi hi'
    match i, hi with
    | 0, _ => exact ⟨_, rfl, hA⟩
    | 1, _ => exact ⟨_, rfl, hB⟩
    | 2, _ => exact ⟨_, rfl, hC⟩
    | 3, _ => exact ⟨_, rfl, hD⟩
    | 4, _ => exact ⟨_, rfl, hE⟩
    | 5, _ => exact ⟨_, rfl, hF⟩)
  exact hN
end Go.Proofs.YtcjdbmcklemkkaaDoor
