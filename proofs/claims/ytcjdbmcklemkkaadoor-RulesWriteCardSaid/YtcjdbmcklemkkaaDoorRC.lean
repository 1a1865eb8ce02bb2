/- Contracts of inner functions of the program, and what they compute: parts of a proof. -/
import Derived.Test.YtcjdbmcklemkkaaDoorRB
namespace Go.Proofs.YtcjdbmcklemkkaaDoor
open Go Go.Proofs Go.Vc Go.RowKit
set_option maxRecDepth 100000
set_option linter.unusedSimpArgs false
set_option linter.unusedVariables false


theorem hex_index (c : UInt8) : Lib.indexByte [48, 49, 50, 51, 52, 53, 54, 55, 56, 57, 97, 98, 99, 100, 101, 102] c = match hexV c with | some d => (d : Int) | none => -1 := by
  have : ∀ n, n < 256 → Lib.indexByte [48, 49, 50, 51, 52, 53, 54, 55, 56, 57, 97, 98, 99, 100, 101, 102] (UInt8.ofNat n) = (match hexV (UInt8.ofNat n) with | some d => (d : Int) | none => -1) := by decide
  have := this c.toNat c.toNat_lt
  rwa [UInt8.ofNat_toNat] at this

theorem hexGo_append : ∀ (a b : List UInt8) (n : Nat), hexGo (a ++ b) n = (hexGo a n).bind (hexGo b)
  | [], b, n => rfl
  | c :: a, b, n => by
    simp only [List.cons_append, hexGo]
    cases hexV c with
    | none => rfl
    | some d => exact hexGo_append a b _
theorem hexV_lt {c : UInt8} {d : Nat} (h : hexV c = some d) : d < 16 := by
  have := c.toNat_lt
  unfold hexV at h; split at h
  · cases h; omega
  · split at h
    · cases h; omega
    · cases h
theorem hexGo_lt : ∀ (a : List UInt8) (n k : Nat), n < 16 ^ k → ∀ m, hexGo a n = some m → m < 16 ^ (k + a.length)
  | [], n, k, h, m, hm => by cases hm; simpa using h
  | c :: a, n, k, h, m, hm => by
    simp only [hexGo] at hm
    cases hc : hexV c with
    | none => rw [hc] at hm; cases hm
    | some d =>
      rw [hc] at hm
      have hd := hexV_lt hc
      have := hexGo_lt a (n * 16 + d) (k + 1) (by rw [Nat.pow_succ]; omega) m hm
      rw [List.length_cons, show k + (a.length + 1) = k + 1 + a.length by omega]; exact this
theorem runesL_step {s rest t : List UInt8} {r : Int} {done : List Int} (h : runesL s = (runesL rest).map (done ++ ·)) (h1 : rune1 rest = some (r, t)) : runesL s = (runesL t).map (done ++ [r] ++ ·) := by
  rw [h, runesL_some h1, Option.map_map]; congr 1; funext x; simp
theorem runesR_none {s rest : List UInt8} {done : List Int} {most : Int} (h : runesL s = (runesL rest).map (done ++ ·)) (h0 : rest ≠ []) (h1 : rune1 rest = none) : runesR s most = ([], false) := by
  rw [runesR, h, runesL_none h0 h1]; rfl

theorem shl4_or (n d : Nat) (hn : n < 1048576) (hd : d < 16) : bits .or .i32 (IntKind.i32.wrap ((n : Int) * 2 ^ min (4 : Int).toNat IntKind.i32.bits)) (IntKind.i32.wrap (d : Int)) = ((n * 16 : Nat) : Int) + (d : Int) := by
  rw [show min (4 : Int).toNat IntKind.i32.bits = 4 from rfl, wrap_i32 (n := (d : Int)) (by omega) (by omega), show (n : Int) * 2 ^ 4 = ((n * 16 : Nat) : Int) by simp, wrap_i32 (by omega) (by omega)]
  exact bits_join .i32 31 (by decide) wraps_i32 4 _ _ (by omega) (by omega) (by omega) (by omega) (by omega) (by omega)

set_option maxHeartbeats 1000000 in
theorem runes_spec (s : List UInt8) (most : Int) (w : World) (hs : s.length ≤ 1000000) :
    Calls Tryd.prog 73 #[.string (str s), .int .i64 most] w fun x w' => ∃ t : Sl, x = .returned (.tuple #[t.v, .bool (runesR s most).2]) ∧ New (elInt .i32) w w' t (runesR s most).1 ∧ Kept w w' := by
  refine calls_of_at (e := ⟨Tryd.prog, 73, 70, Tryd.f73, [.tmp 4, .tmp 5], none, []⟩) Tryd.func73 rfl (by simp) rfl ?_; refine vc_sound rfl Tryd.func73 400 (.code _) _ _ ?_
  simp only [↓vcs, ↓vcs2, vcs3, vcs4, vals, blds, vcs5, vcs6, pures, ints, tys0, tys1, tys2, tys3, tys4, tys5, ↓reduceIte, if_true, if_false, Nat.reduceLT, Nat.reduceLeDiff, Nat.reduceEqDiff, Nat.reduceAdd, Nat.reduceMul, Nat.reduceSub, conds, readsF, readsOk, zero_ne_one_, one_ne_zero_, true_and, and_true, and_self, false_and, and_false, eq_self, reduceCtorEq, Bool.true_and, Bool.and_true, Bool.false_and, Bool.and_false, Bool.false_eq_true, Bool.true_eq_false, forall_const, true_imp_, false_imp_, imp_self, implies_true, Bool.not_true, Bool.not_false, Bool.false_or, Bool.true_or, Bool.or_false, Bool.or_true, beq_true_, beq_false_, Nat.zero_add, Nat.add_zero, fr0_cons_zero, fr0_cons_succ, fr0_0, fr0_1, fr0_2, fr0_3, fr0_4, List.map_cons, List.map_nil, List.map_toArray, Option.map_some, Option.map_none, List.append_toArray, List.nil_append, List.cons_append, List.append_nil, List.all_cons, List.all_nil, List.set_cons_zero, List.set_cons_succ, Array.getD_lit, Array.size_lit, List.reverse_cons, List.reverse_nil, Op.operands, Call.operands, List.toList_toArray, Addr.add_lit, Option.some.injEq, exists_eq_left', Value.pointer.injEq, exists_eq_left, Int.toNat_natCast, Int.reduceToNat, Nat.mul_one, loads, List.length_cons, List.length_nil, Nat.reducePow]
  refine At.ind (fun m (x : List UInt8 × Sl × List Int) f w' => f 0 = .string (str x.1) ∧ f 1 = .int .i64 most ∧ f 6 = x.2.1.v ∧ m = x.1.length ∧ x.1.length ≤ s.length ∧ x.2.2.length + x.1.length ≤ s.length ∧ runesL s = (runesL x.1).map (x.2.2 ++ ·) ∧ (∀ r ∈ x.2.2, isRuneB r = true) ∧ Mine w w' 21 1 fI32 x.2.1 x.2.2) (m := s.length) (x := (s, ⟨none, 0, 0⟩, [])) ?_ ?_
  · simp only [↓vcs, ↓vcs2, vcs3, vcs4, vals, blds, vcs5, vcs6, pures, ints, tys0, tys1, tys2, tys3, tys4, tys5, ↓reduceIte, if_true, if_false, Nat.reduceLT, Nat.reduceLeDiff, Nat.reduceEqDiff, Nat.reduceAdd, Nat.reduceMul, Nat.reduceSub, conds, readsF, readsOk, zero_ne_one_, one_ne_zero_, true_and, and_true, and_self, false_and, and_false, eq_self, reduceCtorEq, Bool.true_and, Bool.and_true, Bool.false_and, Bool.and_false, Bool.false_eq_true, Bool.true_eq_false, forall_const, true_imp_, false_imp_, imp_self, implies_true, Bool.not_true, Bool.not_false, Bool.false_or, Bool.true_or, Bool.or_false, Bool.or_true, beq_true_, beq_false_, Nat.zero_add, Nat.add_zero, fr0_cons_zero, fr0_cons_succ, fr0_0, fr0_1, fr0_2, fr0_3, fr0_4, List.map_cons, List.map_nil, List.map_toArray, Option.map_some, Option.map_none, List.append_toArray, List.nil_append, List.cons_append, List.append_nil, List.all_cons, List.all_nil, List.set_cons_zero, List.set_cons_succ, Array.getD_lit, Array.size_lit, List.reverse_cons, List.reverse_nil, Op.operands, Call.operands, List.toList_toArray, Addr.add_lit, Option.some.injEq, exists_eq_left', Value.pointer.injEq, exists_eq_left, Int.toNat_natCast, Int.reduceToNat, Nat.mul_one, loads, List.length_cons, List.length_nil, Nat.reducePow]
    refine ⟨Nat.le_refl _, by simp, by simp, by simp, Mine.nil (Kept.refl _) _ _ _⟩
  rintro m ih ⟨rest, out, done⟩ f w' ⟨h0, h1, h6, hm, hl1, hl2, hrr, hok, hown⟩
  refine vc_sound rfl Tryd.func73 400 (.code _) _ _ ?_
  simp only at h0 h1 h6 hm hl1 hl2 hrr hok hown
  cases rest with
  | nil =>
    have hne : (([] : List UInt8) == []) = true := rfl
    simp only [↓vcs, ↓vcs2, vcs3, vcs4, vals, blds, vcs5, vcs6, pures, ints, tys0, tys1, tys2, tys3, tys4, tys5, ↓reduceIte, if_true, if_false, Nat.reduceLT, Nat.reduceLeDiff, Nat.reduceEqDiff, Nat.reduceAdd, Nat.reduceMul, Nat.reduceSub, conds, readsF, readsOk, zero_ne_one_, one_ne_zero_, true_and, and_true, and_self, false_and, and_false, eq_self, reduceCtorEq, Bool.true_and, Bool.and_true, Bool.false_and, Bool.and_false, Bool.false_eq_true, Bool.true_eq_false, forall_const, true_imp_, false_imp_, imp_self, implies_true, Bool.not_true, Bool.not_false, Bool.false_or, Bool.true_or, Bool.or_false, Bool.or_true, beq_true_, beq_false_, Nat.zero_add, Nat.add_zero, fr0_cons_zero, fr0_cons_succ, fr0_0, fr0_1, fr0_2, fr0_3, fr0_4, List.map_cons, List.map_nil, List.map_toArray, Option.map_some, Option.map_none, List.append_toArray, List.nil_append, List.cons_append, List.append_nil, List.all_cons, List.all_nil, List.set_cons_zero, List.set_cons_succ, Array.getD_lit, Array.size_lit, List.reverse_cons, List.reverse_nil, Op.operands, Call.operands, List.toList_toArray, Addr.add_lit, Option.some.injEq, exists_eq_left', Value.pointer.injEq, exists_eq_left, Int.toNat_natCast, Int.reduceToNat, Nat.mul_one, loads, List.length_cons, List.length_nil, Nat.reducePow, str_toList, lit_str, str_size, str_byteAt, str_append, str_extract, h0, h1, h6, hne]
    have hr : runesL s = some done := by rw [hrr, runesL_nil]; simp
    refine ⟨out, ?_, ?_, hown.kept⟩
    · simp only [runesR, hr, hown.len fI32_len (by decide)]
    · rw [runesR, hr]
      exact hown.newI32 (by omega) (fun x hx => by have := isRuneB_ok (hok x hx); exact wrap_i32 (by omega) (by omega))
  | cons c l =>
    have hne : ((c :: l) == []) = false := rfl
    have hc := c.toNat_lt
    have hcw : IntKind.i32.wrap (c.toNat : Int) = c.toNat := wrap_i32 (by omega) (by omega)
    have hg : ∀ d, (c :: l).getD 0 d = c := fun _ => rfl
    simp only [List.length_cons] at hm hl1 hl2
    simp only [↓vcs, ↓vcs2, vcs3, vcs4, vals, blds, vcs5, vcs6, pures, ints, tys0, tys1, tys2, tys3, tys4, tys5, ↓reduceIte, if_true, if_false, Nat.reduceLT, Nat.reduceLeDiff, Nat.reduceEqDiff, Nat.reduceAdd, Nat.reduceMul, Nat.reduceSub, conds, readsF, readsOk, zero_ne_one_, one_ne_zero_, true_and, and_true, and_self, false_and, and_false, eq_self, reduceCtorEq, Bool.true_and, Bool.and_true, Bool.false_and, Bool.and_false, Bool.false_eq_true, Bool.true_eq_false, forall_const, true_imp_, false_imp_, imp_self, implies_true, Bool.not_true, Bool.not_false, Bool.false_or, Bool.true_or, Bool.or_false, Bool.or_true, beq_true_, beq_false_, Nat.zero_add, Nat.add_zero, fr0_cons_zero, fr0_cons_succ, fr0_0, fr0_1, fr0_2, fr0_3, fr0_4, List.map_cons, List.map_nil, List.map_toArray, Option.map_some, Option.map_none, List.append_toArray, List.nil_append, List.cons_append, List.append_nil, List.all_cons, List.all_nil, List.set_cons_zero, List.set_cons_succ, Array.getD_lit, Array.size_lit, List.reverse_cons, List.reverse_nil, Op.operands, Call.operands, List.toList_toArray, Addr.add_lit, Option.some.injEq, exists_eq_left', Value.pointer.injEq, exists_eq_left, Int.toNat_natCast, Int.reduceToNat, Nat.mul_one, loads, List.length_cons, List.length_nil, Nat.reducePow, str_toList, lit_str, str_size, str_byteAt, str_append, str_extract, h0, h1, h6, hne, hcw, hg]
    refine ⟨⟨by omega, by omega⟩, (plain_spec _ _).mono ?_⟩
    rintro _ w' ⟨rfl, rfl⟩
    refine ⟨_, rfl, ?_⟩
    split
    · rename_i hp
      obtain ⟨s', w2, a1, a2⟩ := hown.appI32 (ty := 34) app34 c.toNat (by omega)
      refine ⟨⟨by omega, by omega, by omega⟩, s', w2, a1, ?_⟩
      refine ih l.length (l, s', done ++ [(c.toNat : Int)]) _ _ (by omega) ?_
      have hrune : rune1 (c :: l) = some ((c.toNat : Int), l) := by simp only [rune1, hp, if_true]
      simp only [↓vcs, ↓vcs2, vcs3, vcs4, vals, blds, vcs5, vcs6, pures, ints, tys0, tys1, tys2, tys3, tys4, tys5, ↓reduceIte, if_true, if_false, Nat.reduceLT, Nat.reduceLeDiff, Nat.reduceEqDiff, Nat.reduceAdd, Nat.reduceMul, Nat.reduceSub, conds, readsF, readsOk, zero_ne_one_, one_ne_zero_, true_and, and_true, and_self, false_and, and_false, eq_self, reduceCtorEq, Bool.true_and, Bool.and_true, Bool.false_and, Bool.and_false, Bool.false_eq_true, Bool.true_eq_false, forall_const, true_imp_, false_imp_, imp_self, implies_true, Bool.not_true, Bool.not_false, Bool.false_or, Bool.true_or, Bool.or_false, Bool.or_true, beq_true_, beq_false_, Nat.zero_add, Nat.add_zero, fr0_cons_zero, fr0_cons_succ, fr0_0, fr0_1, fr0_2, fr0_3, fr0_4, List.map_cons, List.map_nil, List.map_toArray, Option.map_some, Option.map_none, List.append_toArray, List.nil_append, List.cons_append, List.append_nil, List.all_cons, List.all_nil, List.set_cons_zero, List.set_cons_succ, Array.getD_lit, Array.size_lit, List.reverse_cons, List.reverse_nil, Op.operands, Call.operands, List.toList_toArray, Addr.add_lit, Option.some.injEq, exists_eq_left', Value.pointer.injEq, exists_eq_left, Int.toNat_natCast, Int.reduceToNat, Nat.mul_one, loads, List.length_cons, List.length_nil, Nat.reducePow, str_toList, lit_str, str_size, str_byteAt, str_append, str_extract, h0, h1, h6]
      refine ⟨by simp, by omega, by simp; omega, runesL_step hrr hrune, ?_, a2⟩
      intro r hr
      rcases List.mem_append.1 hr with hr | hr
      · exact hok r hr
      · simp only [List.mem_singleton] at hr; subst hr; simp [plainB] at hp; simp [isRuneB]; omega
    rename_i hp
    split
    · rename_i hc2
      simp only [Bool.and_eq_true, beq_iff_eq, decide_eq_true_eq] at hc2
      have hc92 : c = 92 := UInt8.toNat_inj.1 (by have := hc2.1; show c.toNat = 92; omega)
      obtain ⟨b, w2, a1, a2, a3⟩ := conv_str_bytes (P := Tryd.prog) w' (src := 9) (dst := 31) (e := 5) (l.take 6) (by kernel_rfl) (by kernel_rfl) (by kernel_rfl) (by simp; omega)
      refine ⟨⟨by omega, by omega, by omega⟩, b, w2, a1, ?_⟩
      have hb := a2.len
      have hl6 : (l.take 6).length = 6 := by simp; omega
      refine At.ind (fun m (x : Nat × Nat) f w' => f 0 = .string (str (c :: l)) ∧ f 1 = .int .i64 most ∧ f 6 = out.v ∧ f 7 = .int .i32 x.2 ∧ f 31 = b.v ∧ f 32 = .int .i64 6 ∧ f 33 = .int .i64 x.1 ∧ m = 6 - x.1 ∧ x.1 ≤ 6 ∧ hexGo ((l.take 6).take x.1) 0 = some x.2 ∧ w' = w2) (m := 6) (x := (0, 0)) ?_ ?_
      · simp only [↓vcs, ↓vcs2, vcs3, vcs4, vals, blds, vcs5, vcs6, pures, ints, tys0, tys1, tys2, tys3, tys4, tys5, ↓reduceIte, if_true, if_false, Nat.reduceLT, Nat.reduceLeDiff, Nat.reduceEqDiff, Nat.reduceAdd, Nat.reduceMul, Nat.reduceSub, conds, readsF, readsOk, zero_ne_one_, one_ne_zero_, true_and, and_true, and_self, false_and, and_false, eq_self, reduceCtorEq, Bool.true_and, Bool.and_true, Bool.false_and, Bool.and_false, Bool.false_eq_true, Bool.true_eq_false, forall_const, true_imp_, false_imp_, imp_self, implies_true, Bool.not_true, Bool.not_false, Bool.false_or, Bool.true_or, Bool.or_false, Bool.or_true, beq_true_, beq_false_, Nat.zero_add, Nat.add_zero, fr0_cons_zero, fr0_cons_succ, fr0_0, fr0_1, fr0_2, fr0_3, fr0_4, List.map_cons, List.map_nil, List.map_toArray, Option.map_some, Option.map_none, List.append_toArray, List.nil_append, List.cons_append, List.append_nil, List.all_cons, List.all_nil, List.set_cons_zero, List.set_cons_succ, Array.getD_lit, Array.size_lit, List.reverse_cons, List.reverse_nil, Op.operands, Call.operands, List.toList_toArray, Addr.add_lit, Option.some.injEq, exists_eq_left', Value.pointer.injEq, exists_eq_left, Int.toNat_natCast, Int.reduceToNat, Nat.mul_one, loads, List.length_cons, List.length_nil, Nat.reducePow, str_toList, lit_str, str_size, str_byteAt, str_append, str_extract, h0, h1, h6, hb, hl6]
        exact ⟨rfl, rfl, rfl, rfl⟩
      rintro m2 ih2 ⟨k, n⟩ f w' ⟨g0, g1, g6, g7, g31, g32, g33, hm2, hk, hgo, rfl⟩
      refine vc_sound rfl Tryd.func73 400 (.code _) _ _ ?_
      simp only at g7 g33 hm2 hk hgo
      have hklen : ((l.take 6).take k).length = k := by rw [List.length_take, hl6]; omega
      have hnlt : n < 16 ^ k := by have := hexGo_lt _ 0 0 (by decide) _ hgo; rwa [hklen, Nat.zero_add] at this
      by_cases hk6 : k < 6
      · have hd : decide ((k : Int) < 6) = true := by simp; omega
        simp only [↓vcs, ↓vcs2, vcs3, vcs4, vals, blds, vcs5, vcs6, pures, ints, tys0, tys1, tys2, tys3, tys4, tys5, ↓reduceIte, if_true, if_false, Nat.reduceLT, Nat.reduceLeDiff, Nat.reduceEqDiff, Nat.reduceAdd, Nat.reduceMul, Nat.reduceSub, conds, readsF, readsOk, zero_ne_one_, one_ne_zero_, true_and, and_true, and_self, false_and, and_false, eq_self, reduceCtorEq, Bool.true_and, Bool.and_true, Bool.false_and, Bool.and_false, Bool.false_eq_true, Bool.true_eq_false, forall_const, true_imp_, false_imp_, imp_self, implies_true, Bool.not_true, Bool.not_false, Bool.false_or, Bool.true_or, Bool.or_false, Bool.or_true, beq_true_, beq_false_, Nat.zero_add, Nat.add_zero, fr0_cons_zero, fr0_cons_succ, fr0_0, fr0_1, fr0_2, fr0_3, fr0_4, List.map_cons, List.map_nil, List.map_toArray, Option.map_some, Option.map_none, List.append_toArray, List.nil_append, List.cons_append, List.append_nil, List.all_cons, List.all_nil, List.set_cons_zero, List.set_cons_succ, Array.getD_lit, Array.size_lit, List.reverse_cons, List.reverse_nil, Op.operands, Call.operands, List.toList_toArray, Addr.add_lit, Option.some.injEq, exists_eq_left', Value.pointer.injEq, exists_eq_left, Int.toNat_natCast, Int.reduceToNat, Nat.mul_one, loads, List.length_cons, List.length_nil, Nat.reducePow, str_toList, lit_str, str_size, str_byteAt, str_append, str_extract, g0, g1, g6, g7, g31, g32, g33, hd]
        have hk6' : k < (l.take 6).length := by omega
        have htk : (l.take 6).take (k + 1) = (l.take 6).take k ++ [(l.take 6)[k]] := take_snoc' _ _ hk6'
        have hstep := hexGo_append ((l.take 6).take k) [(l.take 6)[k]] 0
        rw [← htk, hgo] at hstep
        refine ⟨⟨a2.some_ hk6', by omega, by omega⟩, _, a2.u8 hk6', (Tryd.strings_IndexByte _ _ _).mono ?_⟩
        rintro _ w' ⟨rfl, rfl⟩
        refine ⟨_, rfl, ?_⟩
        have hix := hex_index (l.take 6)[k]
        have hcc : ((l.take 6)[k].toNat : Int).toNat.toUInt8 = (l.take 6)[k] := by simp
        rw [hcc]
        cases hv : hexV (l.take 6)[k] with
        | none =>
          rw [hv] at hix
          simp only at hix
          simp only [show Lib.indexByte (str [48, 49, 50, 51, 52, 53, 54, 55, 56, 57, 97, 98, 99, 100, 101, 102]).data.toList (l.take 6)[k] = -1 from hix, ↓vcs, ↓vcs2, vcs3, vcs4, vals, blds, vcs5, vcs6, pures, ints, tys0, tys1, tys2, tys3, tys4, tys5, ↓reduceIte, if_true, if_false, Nat.reduceLT, Nat.reduceLeDiff, Nat.reduceEqDiff, Nat.reduceAdd, Nat.reduceMul, Nat.reduceSub, conds, readsF, readsOk, zero_ne_one_, one_ne_zero_, true_and, and_true, and_self, false_and, and_false, eq_self, reduceCtorEq, Bool.true_and, Bool.and_true, Bool.false_and, Bool.and_false, Bool.false_eq_true, Bool.true_eq_false, forall_const, true_imp_, false_imp_, imp_self, implies_true, Bool.not_true, Bool.not_false, Bool.false_or, Bool.true_or, Bool.or_false, Bool.or_true, beq_true_, beq_false_, Nat.zero_add, Nat.add_zero, fr0_cons_zero, fr0_cons_succ, fr0_0, fr0_1, fr0_2, fr0_3, fr0_4, List.map_cons, List.map_nil, List.map_toArray, Option.map_some, Option.map_none, List.append_toArray, List.nil_append, List.cons_append, List.append_nil, List.all_cons, List.all_nil, List.set_cons_zero, List.set_cons_succ, Array.getD_lit, Array.size_lit, List.reverse_cons, List.reverse_nil, Op.operands, Call.operands, List.toList_toArray, Addr.add_lit, Option.some.injEq, exists_eq_left', Value.pointer.injEq, exists_eq_left, Int.toNat_natCast, Int.reduceToNat, Nat.mul_one, loads, List.length_cons, List.length_nil, Nat.reducePow]
          have hd0 : decide ((-1 : Int) < 0) = true := by decide
          simp only [hd0, if_true]
          simp only [hexGo, hv, Option.bind_some] at hstep
          have hnone : rune1 (c :: l) = none := by
            have h6 : hexGo (l.take 6) 0 = none := by
              have h7 : l.take 6 = (l.take 6).take (k + 1) ++ (l.take 6).drop (k + 1) := (List.take_append_drop _ _).symm
              rw [h7, hexGo_append, hstep]; simp [hexGo, hv]
            simp only [rune1, if_neg hp]
            rw [if_pos ⟨hc92, by omega⟩, h6]
          refine ⟨⟨none, 0, 0⟩, ?_, ?_, hown.kept.trans a3⟩
          · rw [runesR_none hrr (by simp) hnone]
          · rw [runesR_none hrr (by simp) hnone]; exact New.nil _ _ _ _ _
        | some d =>
          rw [hv] at hix
          simp only at hix
          have hdlt := hexV_lt hv
          simp only [show Lib.indexByte (str [48, 49, 50, 51, 52, 53, 54, 55, 56, 57, 97, 98, 99, 100, 101, 102]).data.toList (l.take 6)[k] = (d : Int) from hix, ↓vcs, ↓vcs2, vcs3, vcs4, vals, blds, vcs5, vcs6, pures, ints, tys0, tys1, tys2, tys3, tys4, tys5, ↓reduceIte, if_true, if_false, Nat.reduceLT, Nat.reduceLeDiff, Nat.reduceEqDiff, Nat.reduceAdd, Nat.reduceMul, Nat.reduceSub, conds, readsF, readsOk, zero_ne_one_, one_ne_zero_, true_and, and_true, and_self, false_and, and_false, eq_self, reduceCtorEq, Bool.true_and, Bool.and_true, Bool.false_and, Bool.and_false, Bool.false_eq_true, Bool.true_eq_false, forall_const, true_imp_, false_imp_, imp_self, implies_true, Bool.not_true, Bool.not_false, Bool.false_or, Bool.true_or, Bool.or_false, Bool.or_true, beq_true_, beq_false_, Nat.zero_add, Nat.add_zero, fr0_cons_zero, fr0_cons_succ, fr0_0, fr0_1, fr0_2, fr0_3, fr0_4, List.map_cons, List.map_nil, List.map_toArray, Option.map_some, Option.map_none, List.append_toArray, List.nil_append, List.cons_append, List.append_nil, List.all_cons, List.all_nil, List.set_cons_zero, List.set_cons_succ, Array.getD_lit, Array.size_lit, List.reverse_cons, List.reverse_nil, Op.operands, Call.operands, List.toList_toArray, Addr.add_lit, Option.some.injEq, exists_eq_left', Value.pointer.injEq, exists_eq_left, Int.toNat_natCast, Int.reduceToNat, Nat.mul_one, loads, List.length_cons, List.length_nil, Nat.reducePow]
          have hd0 : decide ((d : Int) < 0) = false := by simp
          simp only [hexGo, hv, Option.bind_some] at hstep
          simp only [hd0, Bool.false_eq_true, if_false]
          refine ⟨by omega, ih2 (6 - (k + 1)) (k + 1, n * 16 + d) _ _ (by omega) ?_⟩
          have hk1 : IntKind.i64.wrap ((k : Int) + 1) = (k : Int) + 1 := wrap_i64 (by omega) (by omega)
          simp only [↓vcs, ↓vcs2, vcs3, vcs4, vals, blds, vcs5, vcs6, pures, ints, tys0, tys1, tys2, tys3, tys4, tys5, ↓reduceIte, if_true, if_false, Nat.reduceLT, Nat.reduceLeDiff, Nat.reduceEqDiff, Nat.reduceAdd, Nat.reduceMul, Nat.reduceSub, conds, readsF, readsOk, zero_ne_one_, one_ne_zero_, true_and, and_true, and_self, false_and, and_false, eq_self, reduceCtorEq, Bool.true_and, Bool.and_true, Bool.false_and, Bool.and_false, Bool.false_eq_true, Bool.true_eq_false, forall_const, true_imp_, false_imp_, imp_self, implies_true, Bool.not_true, Bool.not_false, Bool.false_or, Bool.true_or, Bool.or_false, Bool.or_true, beq_true_, beq_false_, Nat.zero_add, Nat.add_zero, fr0_cons_zero, fr0_cons_succ, fr0_0, fr0_1, fr0_2, fr0_3, fr0_4, List.map_cons, List.map_nil, List.map_toArray, Option.map_some, Option.map_none, List.append_toArray, List.nil_append, List.cons_append, List.append_nil, List.all_cons, List.all_nil, List.set_cons_zero, List.set_cons_succ, Array.getD_lit, Array.size_lit, List.reverse_cons, List.reverse_nil, Op.operands, Call.operands, List.toList_toArray, Addr.add_lit, Option.some.injEq, exists_eq_left', Value.pointer.injEq, exists_eq_left, Int.toNat_natCast, Int.reduceToNat, Nat.mul_one, loads, List.length_cons, List.length_nil, Nat.reducePow, g0, g1, g6, g31, g32, hk1, Int.natCast_add, Int.natCast_one]
          have hn5 : n < 1048576 := Nat.lt_of_lt_of_le hnlt (Nat.pow_le_pow_right (by decide) (show k ≤ 5 by omega))
          exact ⟨congrArg _ (shl4_or n d hn5 hdlt), by omega, hstep⟩
      · have hd : decide ((k : Int) < 6) = false := by simp; omega
        simp only [↓vcs, ↓vcs2, vcs3, vcs4, vals, blds, vcs5, vcs6, pures, ints, tys0, tys1, tys2, tys3, tys4, tys5, ↓reduceIte, if_true, if_false, Nat.reduceLT, Nat.reduceLeDiff, Nat.reduceEqDiff, Nat.reduceAdd, Nat.reduceMul, Nat.reduceSub, conds, readsF, readsOk, zero_ne_one_, one_ne_zero_, true_and, and_true, and_self, false_and, and_false, eq_self, reduceCtorEq, Bool.true_and, Bool.and_true, Bool.false_and, Bool.and_false, Bool.false_eq_true, Bool.true_eq_false, forall_const, true_imp_, false_imp_, imp_self, implies_true, Bool.not_true, Bool.not_false, Bool.false_or, Bool.true_or, Bool.or_false, Bool.or_true, beq_true_, beq_false_, Nat.zero_add, Nat.add_zero, fr0_cons_zero, fr0_cons_succ, fr0_0, fr0_1, fr0_2, fr0_3, fr0_4, List.map_cons, List.map_nil, List.map_toArray, Option.map_some, Option.map_none, List.append_toArray, List.nil_append, List.cons_append, List.append_nil, List.all_cons, List.all_nil, List.set_cons_zero, List.set_cons_succ, Array.getD_lit, Array.size_lit, List.reverse_cons, List.reverse_nil, Op.operands, Call.operands, List.toList_toArray, Addr.add_lit, Option.some.injEq, exists_eq_left', Value.pointer.injEq, exists_eq_left, Int.toNat_natCast, Int.reduceToNat, Nat.mul_one, loads, List.length_cons, List.length_nil, Nat.reducePow, str_toList, lit_str, str_size, str_byteAt, str_append, str_extract, g0, g1, g6, g7, g31, g32, g33, hd]
        obtain rfl : k = 6 := by omega
        have h66 : (l.take 6).take 6 = l.take 6 := List.take_of_length_le (by omega)
        rw [h66] at hgo
        refine (plain_spec _ _).mono ?_
        rintro _ w' ⟨rfl, rfl⟩
        refine ⟨_, rfl, ?_⟩
        cases hpn : plainB (n : Int)
        · simp only [↓vcs, ↓vcs2, vcs3, vcs4, vals, blds, vcs5, vcs6, pures, ints, tys0, tys1, tys2, tys3, tys4, tys5, ↓reduceIte, if_true, if_false, Nat.reduceLT, Nat.reduceLeDiff, Nat.reduceEqDiff, Nat.reduceAdd, Nat.reduceMul, Nat.reduceSub, conds, readsF, readsOk, zero_ne_one_, one_ne_zero_, true_and, and_true, and_self, false_and, and_false, eq_self, reduceCtorEq, Bool.true_and, Bool.and_true, Bool.false_and, Bool.and_false, Bool.false_eq_true, Bool.true_eq_false, forall_const, true_imp_, false_imp_, imp_self, implies_true, Bool.not_true, Bool.not_false, Bool.false_or, Bool.true_or, Bool.or_false, Bool.or_true, beq_true_, beq_false_, Nat.zero_add, Nat.add_zero, fr0_cons_zero, fr0_cons_succ, fr0_0, fr0_1, fr0_2, fr0_3, fr0_4, List.map_cons, List.map_nil, List.map_toArray, Option.map_some, Option.map_none, List.append_toArray, List.nil_append, List.cons_append, List.append_nil, List.all_cons, List.all_nil, List.set_cons_zero, List.set_cons_succ, Array.getD_lit, Array.size_lit, List.reverse_cons, List.reverse_nil, Op.operands, Call.operands, List.toList_toArray, Addr.add_lit, Option.some.injEq, exists_eq_left', Value.pointer.injEq, exists_eq_left, Int.toNat_natCast, Int.reduceToNat, Nat.mul_one, loads, List.length_cons, List.length_nil, Nat.reducePow]
          refine (isRune_spec _ _).mono ?_
          rintro _ w' ⟨rfl, rfl⟩
          refine ⟨_, rfl, ?_⟩
          cases hrn : isRuneB (n : Int)
          · have hnone : rune1 (c :: l) = none := by
              simp only [rune1, if_neg hp]
              rw [if_pos ⟨hc92, by omega⟩, hgo]; simp [hrn]
            refine ⟨⟨none, 0, 0⟩, ?_, ?_, hown.kept.trans a3⟩
            · rw [runesR_none hrr (by simp) hnone]
            · rw [runesR_none hrr (by simp) hnone]; exact New.nil _ _ _ _ _
          · simp only [↓vcs, ↓vcs2, vcs3, vcs4, vals, blds, vcs5, vcs6, pures, ints, tys0, tys1, tys2, tys3, tys4, tys5, ↓reduceIte, if_true, if_false, Nat.reduceLT, Nat.reduceLeDiff, Nat.reduceEqDiff, Nat.reduceAdd, Nat.reduceMul, Nat.reduceSub, conds, readsF, readsOk, zero_ne_one_, one_ne_zero_, true_and, and_true, and_self, false_and, and_false, eq_self, reduceCtorEq, Bool.true_and, Bool.and_true, Bool.false_and, Bool.and_false, Bool.false_eq_true, Bool.true_eq_false, forall_const, true_imp_, false_imp_, imp_self, implies_true, Bool.not_true, Bool.not_false, Bool.false_or, Bool.true_or, Bool.or_false, Bool.or_true, beq_true_, beq_false_, Nat.zero_add, Nat.add_zero, fr0_cons_zero, fr0_cons_succ, fr0_0, fr0_1, fr0_2, fr0_3, fr0_4, List.map_cons, List.map_nil, List.map_toArray, Option.map_some, Option.map_none, List.append_toArray, List.nil_append, List.cons_append, List.append_nil, List.all_cons, List.all_nil, List.set_cons_zero, List.set_cons_succ, Array.getD_lit, Array.size_lit, List.reverse_cons, List.reverse_nil, Op.operands, Call.operands, List.toList_toArray, Addr.add_lit, Option.some.injEq, exists_eq_left', Value.pointer.injEq, exists_eq_left, Int.toNat_natCast, Int.reduceToNat, Nat.mul_one, loads, List.length_cons, List.length_nil, Nat.reducePow, g0, g1, g6]
            have hrune : rune1 (c :: l) = some ((n : Int), l.drop 6) := by
              simp only [rune1, if_neg hp]
              rw [if_pos ⟨hc92, by omega⟩, hgo]; simp [hpn, hrn]
            obtain ⟨s', w3, b1, b2⟩ := (hown.keep a3).appI32 (ty := 34) app34 n (by omega)
            refine ⟨⟨by omega, by omega, by omega⟩, s', w3, b1, ?_⟩
            refine ih (l.drop 6).length (l.drop 6, s', done ++ [(n : Int)]) _ _ (by rw [List.length_drop]; omega) ?_
            simp only [↓vcs, ↓vcs2, vcs3, vcs4, vals, blds, vcs5, vcs6, pures, ints, tys0, tys1, tys2, tys3, tys4, tys5, ↓reduceIte, if_true, if_false, Nat.reduceLT, Nat.reduceLeDiff, Nat.reduceEqDiff, Nat.reduceAdd, Nat.reduceMul, Nat.reduceSub, conds, readsF, readsOk, zero_ne_one_, one_ne_zero_, true_and, and_true, and_self, false_and, and_false, eq_self, reduceCtorEq, Bool.true_and, Bool.and_true, Bool.false_and, Bool.and_false, Bool.false_eq_true, Bool.true_eq_false, forall_const, true_imp_, false_imp_, imp_self, implies_true, Bool.not_true, Bool.not_false, Bool.false_or, Bool.true_or, Bool.or_false, Bool.or_true, beq_true_, beq_false_, Nat.zero_add, Nat.add_zero, fr0_cons_zero, fr0_cons_succ, fr0_0, fr0_1, fr0_2, fr0_3, fr0_4, List.map_cons, List.map_nil, List.map_toArray, Option.map_some, Option.map_none, List.append_toArray, List.nil_append, List.cons_append, List.append_nil, List.all_cons, List.all_nil, List.set_cons_zero, List.set_cons_succ, Array.getD_lit, Array.size_lit, List.reverse_cons, List.reverse_nil, Op.operands, Call.operands, List.toList_toArray, Addr.add_lit, Option.some.injEq, exists_eq_left', Value.pointer.injEq, exists_eq_left, Int.toNat_natCast, Int.reduceToNat, Nat.mul_one, loads, List.length_cons, List.length_nil, Nat.reducePow, str_toList, lit_str, str_size, str_byteAt, str_append, str_extract, g0, g1, g6]
            refine ⟨by rw [List.take_of_length_le (by simp)]; rfl, by rw [List.length_drop]; omega, by simp; omega, runesL_step hrr hrune, ?_, b2⟩
            intro r hr
            rcases List.mem_append.1 hr with hr | hr
            · exact hok r hr
            · simp only [List.mem_singleton] at hr; subst hr; exact hrn
        · simp only [↓vcs, ↓vcs2, vcs3, vcs4, vals, blds, vcs5, vcs6, pures, ints, tys0, tys1, tys2, tys3, tys4, tys5, ↓reduceIte, if_true, if_false, Nat.reduceLT, Nat.reduceLeDiff, Nat.reduceEqDiff, Nat.reduceAdd, Nat.reduceMul, Nat.reduceSub, conds, readsF, readsOk, zero_ne_one_, one_ne_zero_, true_and, and_true, and_self, false_and, and_false, eq_self, reduceCtorEq, Bool.true_and, Bool.and_true, Bool.false_and, Bool.and_false, Bool.false_eq_true, Bool.true_eq_false, forall_const, true_imp_, false_imp_, imp_self, implies_true, Bool.not_true, Bool.not_false, Bool.false_or, Bool.true_or, Bool.or_false, Bool.or_true, beq_true_, beq_false_, Nat.zero_add, Nat.add_zero, fr0_cons_zero, fr0_cons_succ, fr0_0, fr0_1, fr0_2, fr0_3, fr0_4, List.map_cons, List.map_nil, List.map_toArray, Option.map_some, Option.map_none, List.append_toArray, List.nil_append, List.cons_append, List.append_nil, List.all_cons, List.all_nil, List.set_cons_zero, List.set_cons_succ, Array.getD_lit, Array.size_lit, List.reverse_cons, List.reverse_nil, Op.operands, Call.operands, List.toList_toArray, Addr.add_lit, Option.some.injEq, exists_eq_left', Value.pointer.injEq, exists_eq_left, Int.toNat_natCast, Int.reduceToNat, Nat.mul_one, loads, List.length_cons, List.length_nil, Nat.reducePow]
          have hnone : rune1 (c :: l) = none := by
            simp only [rune1, if_neg hp]
            rw [if_pos ⟨hc92, by omega⟩, hgo]; simp [hpn]
          refine ⟨⟨none, 0, 0⟩, ?_, ?_, hown.kept.trans a3⟩
          · rw [runesR_none hrr (by simp) hnone]
          · rw [runesR_none hrr (by simp) hnone]; exact New.nil _ _ _ _ _
    · rename_i hc2
      have hnone : rune1 (c :: l) = none := by
        simp only [rune1, if_neg hp]
        rw [if_neg]
        rintro ⟨rfl, h6⟩
        apply hc2; simp; omega
      refine ⟨⟨none, 0, 0⟩, ?_, ?_, hown.kept⟩
      · rw [runesR_none hrr (by simp) hnone]
      · rw [runesR_none hrr (by simp) hnone]; exact New.nil _ _ _ _ _
end Go.Proofs.YtcjdbmcklemkkaaDoor
