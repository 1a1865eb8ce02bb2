/- Arrays in memory, sliced. Nothing of any program stands here. -/
import Derived.Test.YtcjdbmcklemkkaaDoorVcList
namespace Go.Vc
open Go
theorem valP :
    (∀ (P : Program) t l h a, slV P t l h (.pointer (some a)) = Sl.v ⟨some (if alen P t = (lo l).toNat then a else a.add ((lo l).toNat * esz P t)), (hi h (alen P t)).toNat - (lo l).toNat, alen P t - (lo l).toNat⟩) ∧
    (∀ (P : Program) t l h a, slOk P t l h (.pointer (some a)) = (isArr P t = true ∧ ixIs l ∧ ixIs h ∧ 0 ≤ lo l ∧ lo l ≤ hi h (alen P t) ∧ hi h (alen P t) ≤ alen P t)) ∧
    (∀ (f : F) (g : Nat → Bool) (c : Bool) t x, readsFor f g c (.slice t x none none none) = readsOk g c [x]) := by
  refine ⟨fun _ _ _ _ _ => rfl, fun P t l h a => ?_, fun f g c t x => ?_⟩
  · simp [slOk]
  · simp [readsFor, Op.operands]
/-- Nothing appended. -/
theorem append_none {P : Program} {t ty : TypeId} {w : World} {B : Nat} {e : TypeId} {z : Nat} {s x : Sl} {cs : List Value} (h1 : isSlc P t = true) (h2 : P.elem t = e) (hown : Own w B e z s cs) (ha : x.a = none) (hl : x.len = 0) :
    (Builtin.append_ #[t, t] ty #[s.v, x.v]).run P w = .ok s.v w := by
  obtain ⟨h5, h6⟩ := isSlc_spec h1
  rw [h2] at h5 h6
  obtain ⟨i, hi⟩ := Option.isSome_iff_exists.1 h6
  have hx : x.v = .slice none 0 x.cap := by simp [Sl.v, ha, hl]
  rcases hown.2 with ⟨hv, hn0⟩ | ⟨g, cap, cur, hv, hbg, hg, hnc, hcm, hcs, htake⟩
  · rw [hv, hx]
    simp [Builtin.append_, run_underlying h5, sizeOf, typeInfo, hi, Builtin.lenOf, Builtin.firstCells]
  · rw [hv, hx]
    simp [Builtin.append_, run_underlying h5, sizeOf, typeInfo, hi, Builtin.lenOf, Builtin.firstCells, hnc, storeCells]
/-- 'append([]T{}, x...)': what x holds, in memory of its own. -/
theorem append_copy {α : Type} {P : Program} {t ty e : TypeId} {E : El α} (A : AppOk P t e E.z) {W w : World} {x : Sl} {l : List α} {f : α → List Value} (hW : W.heap.size ≤ w.heap.size) (hx : Is E w x l) (hrow : rowAt w (adr x.a) (l.flatMap f)) (hz : ∀ y, (f y).length = E.z) (hone : ∀ u ∈ l.flatMap f, u.oneCell' = true) (hl : l.length ≤ 1000000) :
    ∃ (s' : Sl) (w' : World), (Builtin.append_ #[t, t] ty #[Sl.v ⟨some ⟨w.heap.size, 0, none⟩, 0, 0⟩, x.v]).run P (w.alloc (.cells #[] e)) = .ok s'.v w' ∧ Own w' w.heap.size e E.z s' (l.flatMap f) ∧ s'.len = l.length ∧ Kept w w' := by
  have hb := Own.built w e (z := E.z) (n := 0) (cs := []) (by simp) (by decide)
  have k1 : Kept w (w.alloc (.cells ([] : List Value).toArray e)) := (Kept.refl _).alloc _
  have hxl := hx.len
  by_cases h0 : x.a = none
  · have hl0 : l = [] := by
      cases l with
      | nil => rfl
      | cons y l => have := hx.some_ (i := 0) (by simp); rw [h0] at this; cases this
    subst hl0
    exact ⟨_, _, append_none A.slc A.elem hb h0 hxl, hb, rfl, k1⟩
  · obtain ⟨a, ha⟩ := Option.isSome_iff_exists.1 (Option.isSome_iff_ne_none.2 h0)
    have hk : rowAt (w.alloc (.cells ([] : List Value).toArray e)) (adr x.a) (l.flatMap f) := by
      intro i v hv
      have h1 := hrow i v hv
      rw [← h1]
      refine World.cell?_of_block ?_
      by_cases hll : l.length = 0
      · have : l = [] := List.eq_nil_of_length_eq_zero hll
        subst this; simp at hv
      · rw [add_block]
        have := hx.blk 0 (by omega)
        rw [add_block] at this
        exact k1.block _ this
    obtain ⟨s', w', a1, a2, a3, a4, _⟩ := append_own (P := P) (t := t) (ty := ty) (x := x) (news := l.flatMap f) A.slc A.elem A.esz A.zok A.pos A.bytes A.zl hb ⟨a, ha⟩ (by rw [flatMap_len hz, hxl]) hk hone (by simp only; omega) k1.size
    exact ⟨s', w', a1, by simpa using a2, by rw [a3]; simp [hxl], k1.own hb a4⟩
end Go.Vc
