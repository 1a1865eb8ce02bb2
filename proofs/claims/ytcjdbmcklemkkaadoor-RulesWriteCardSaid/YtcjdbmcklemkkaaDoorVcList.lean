/- A slice of the call's own that grows, whose elements lead to data elsewhere. Nothing of any program stands here. -/
import Derived.Test.YtcjdbmcklemkkaaDoorVcTree
namespace Go.Vc
open Go Go.RowKit
set_option linter.unusedSimpArgs false
set_option linter.unusedVariables false

/-- Where a grown slice lies. -/
theorem append_blk {P : Program} {t ty : TypeId} {w w' : World} {B : Nat} {e : TypeId} {z : Nat} {s x s' : Sl} {cs news : List Value} (h1 : isSlc P t = true) (h2 : P.elem t = e) (h3 : esz P t = z) (hz : zOk P e = true) (hzp : 0 < z)
    (hby : P.bytesOf e ≤ 1024) (hzs : (zl P e).length = z)
    (hown : Own w B e z s cs) (hx : ∃ a, x.a = some a) (hl : news.length = x.len * z) (hnews : rowAt w (adr x.a) news) (hone : ∀ u ∈ news, u.oneCell' = true)
    (hn : s.len + x.len ≤ 100000000000) (hr : (Builtin.append_ #[t, t] ty #[s.v, x.v]).run P w = .ok s'.v w') :
    s'.blk = s.blk ∨ s'.blk = some w.heap.size := by
  obtain ⟨h5, h6⟩ := isSlc_spec h1
  rw [h2] at h5 h6
  obtain ⟨i, hi⟩ := Option.isSome_iff_exists.1 h6
  have hz' : i.zero.isSome = true := by unfold zOk at hz; rw [hi] at hz; exact hz
  obtain ⟨zv, hzv⟩ := Option.isSome_iff_exists.1 hz'
  obtain ⟨a, hxa⟩ := hx
  have hsz : i.size = z := by have : esz P t = i.size := by simp [esz, h2, Program.cellsOf, hi]
                              omega
  have hbb : i.bytes ≤ 1024 := by have : P.bytesOf e = i.bytes := by simp [Program.bytesOf, hi]
                                  omega
  subst hsz
  have hxv : x.v = .slice (some a) x.len x.cap := by simp [Sl.v, hxa]
  have hnews' : ∀ j u, news[j]? = some u → w.cell? (a.add j) = some u := fun j u hu => by have := hnews j u hu; rw [hxa] at this; exact this
  have hbytes := Nat.mul_le_mul hn hbb
  rcases hown.2 with ⟨hv, hn0⟩ | ⟨g, cap, cur, hv, hbg, hg, hnc, hcm, hcs, htake⟩
  · by_cases hm : x.len = 0
    · have hnn : news = [] := List.eq_nil_of_length_eq_zero (by rw [hl, hm, Nat.zero_mul])
      subst hnn
      have hr2 : (Builtin.append_ #[t, t] ty #[s.v, x.v]).run P w = .ok (.slice none 0 0) w := by
        rw [hv, hxv, hm]
        simp [Builtin.append_, run_underlying h5, sizeOf, typeInfo, hi, Builtin.lenOf, Builtin.firstCells, loadCells, loadCellsFrom]
      rw [hr2] at hr
      simp only [Result.ok.injEq] at hr
      left; rw [Sl.blk, Sl.blk, ← hr.1, hv]
    · have hr2 := run_append_nil (P := P) w t ty e i zv h5 hi hzv a x.len x.cap news hl hnews' (by omega) (by omega) (by
        have : x.len * i.bytes ≤ 100000000000 * 1024 := Nat.mul_le_mul (by omega) hbb
        omega)
      rw [hv, hxv] at hr
      rw [hr2] at hr
      simp only [Result.ok.injEq] at hr
      right; rw [Sl.blk, ← hr.1]; rfl
  · by_cases hroom : s.len + x.len ≤ cap
    · have hfit : s.len * i.size + news.length ≤ cur.size := by rw [hl, hcs, ← Nat.add_mul]; exact Nat.mul_le_mul_right _ hroom
      have hr2 := run_append_room (P := P) w t ty e i h5 hi g s.len cap cur hg a x.len x.cap news hl hnews' hone hroom hfit
      rw [hv, hxv] at hr
      rw [hr2] at hr
      simp only [Result.ok.injEq] at hr
      left; rw [Sl.blk, Sl.blk, ← hr.1, hv]; rfl
    · have holds : ∀ j u, cs[j]? = some u → w.cell? ((⟨g, 0, none⟩ : Addr).add j) = some u := by
        have := World.ownsRow.cells hown (g := g) (by rw [hv]; rfl)
        exact this
      have hr2 := run_append_grow (P := P) w t ty e i zv h5 hi hzv ⟨g, 0, none⟩ s.len cap cs hown.1 holds a x.len x.cap news hl hnews' (by omega) (by omega) (growslice_fits (by omega) (by
        have : (s.len + x.len) * i.bytes ≤ 100000000000 * 1024 := hbytes
        omega))
      rw [hv, hxv] at hr
      rw [hr2] at hr
      simp only [Result.ok.injEq] at hr
      right; rw [Sl.blk, ← hr.1]; rfl

/-- s is one of the call's own (from the block B on), it holds l; what its elements lead to lies from B on too, in other blocks. -/
def Grow {α : Type} (B : Nat) (E : El α) (w : World) (e : TypeId) (s : Sl) (l : List α) : Prop :=
  ∃ css : List (List Value), Own w B e E.z s css.flatten ∧ css.length = l.length ∧ ∀ i (hi : i < l.length) (hi' : i < css.length), E.rel (fun k => B ≤ k ∧ k < w.heap.size ∧ s.blk ≠ some k) w css[i] l[i]

section
variable {α : Type} {B : Nat} {E : El α} {w w' : World} {e : TypeId} {s : Sl} {l : List α}

theorem Grow.nil (B : Nat) (E : El α) (w : World) (e : TypeId) : Grow B E w e ⟨none, 0, 0⟩ [] := ⟨[], Own.nil _ _ _ _, rfl, fun i hi => by simp at hi⟩
theorem Grow.own (h : Grow B E w e s l) : ∃ cs, Own w B e E.z s cs := let ⟨css, h, _⟩ := h; ⟨_, h⟩
theorem flatten_len {β : Type} {z : Nat} : ∀ (css : List (List β)), (∀ c ∈ css, c.length = z) → css.flatten.length = css.length * z
  | [], _ => by simp
  | c :: css, h => by
    have := flatten_len css (fun c hc => h c (by simp [hc]))
    have := h c (by simp)
    simp only [List.flatten_cons, List.length_append, List.length_cons, Nat.add_mul, Nat.one_mul]; omega
theorem Grow.len (h : Grow B E w e s l) (hz : 0 < E.z) : s.len = l.length := by
  obtain ⟨css, h1, h2, h3⟩ := h
  have hlen := h1.len
  have hc : ∀ c ∈ css, c.length = E.z := by
    intro c hc
    obtain ⟨i, hi, rfl⟩ := List.mem_iff_getElem.1 hc
    exact E.len (h3 i (by omega) hi)
  rw [flatten_len css hc, h2] at hlen
  exact (Nat.eq_of_mul_eq_mul_right hz hlen).symm
/-- Only new blocks turn, and one that is none of them. -/
theorem Grow.but (h : Grow B E w e s l) {k : Nat} (hk : k < B) (hb : KeptBut k w w') : Grow B E w' e s l := by
  obtain ⟨css, h1, h2, h3⟩ := h
  refine ⟨css, h1.but hk hb, h2, fun i hi hi' => ?_⟩
  exact E.mono (fun j hj => ⟨hj.1, Nat.lt_of_lt_of_le hj.2.1 hb.size, hj.2.2⟩) (E.frame (fun j hj => hb.block j hj.2.1 (by omega)) (h3 i hi hi'))
theorem Grow.keep (h : Grow B E w e s l) (hk : Kept w w') : Grow B E w' e s l := by
  obtain ⟨css, h1, h2, h3⟩ := h
  refine ⟨css, h1.below hk (Nat.le_refl _), h2, fun i hi hi' => ?_⟩
  exact E.mono (fun j hj => ⟨hj.1, Nat.lt_of_lt_of_le hj.2.1 hk.size, hj.2.2⟩) (E.frame (fun j hj => hk.block j hj.2.1) (h3 i hi hi'))
/-- 'append(s, x)'. -/
theorem Grow.app {P : Program} {t ty : TypeId} (A : AppOk P t e E.z) (h : Grow B E w e s l) {c : List Value} {x : α} (hone : ∀ u ∈ c, u.oneCell' = true) (hl : l.length ≤ 10000000000) (hB : B ≤ w.heap.size)
    (hx : E.rel (fun k => B ≤ k ∧ k < w.heap.size ∧ s.blk ≠ some k) w c x) :
    ∃ (s' : Sl) (w' : World), (Builtin.append_ #[t, t] ty #[s.v, Sl.v ⟨some ⟨w.heap.size, 0, none⟩, 1, 1⟩]).run P (w.alloc (.cells c.toArray e)) = .ok s'.v w' ∧ Grow B E w' e s' (l ++ [x]) ∧ w.grownBy w' s.blk ∧ w.heap.size ≤ w'.heap.size := by
  have hlen := h.len A.pos
  obtain ⟨css, h1, h2, h3⟩ := h
  have hc : c.length = E.z := E.len hx
  obtain ⟨s', w', a1, a2, a3, a4⟩ := append1 (P := P) (t := t) (ty := ty) A h1 c hc hone (by omega) hB
  have hblk := append_blk (P := P) (t := t) (ty := ty) (x := ⟨some ⟨w.heap.size, 0, none⟩, 1, 1⟩) (news := c) A.slc A.elem A.esz A.zok A.pos A.bytes A.zl (h1.alloc (.cells c.toArray e)) ⟨_, rfl⟩ (by simpa using hc) (fun i v hv => by rw [adr, Option.getD_some, Addr.add_lit, Nat.zero_add, World.cell?_alloc_new]; simpa using hv) hone (by simp; omega) a1
  have hsz : (w.alloc (.cells c.toArray e)).heap.size = w.heap.size + 1 := by simp only [World.alloc, Array.size_push]
  rw [hsz] at hblk
  have key : ∀ {cs : List Value} {y : α}, E.rel (fun k => B ≤ k ∧ k < w.heap.size ∧ s.blk ≠ some k) w cs y → E.rel (fun k => B ≤ k ∧ k < w'.heap.size ∧ s'.blk ≠ some k) w' cs y := fun hr => by
    refine E.mono (fun j hj => ⟨hj.1, Nat.lt_of_lt_of_le hj.2.1 a4.size, ?_⟩) (E.frame (fun j hj => a4.block j hj.2.1 (fun h => hj.2.2 h.symm)) hr)
    rcases hblk with hb | hb <;> rw [hb]
    · exact hj.2.2
    · intro h; simp only [Option.some.injEq] at h; have := hj.2.1; omega
  refine ⟨s', w', a1, ⟨css ++ [c], by simpa using a2, by simp [h2], fun i hi hi' => ?_⟩, a4, a4.size⟩
  simp only [List.length_append, List.length_cons, List.length_nil] at hi
  by_cases hlt : i < l.length
  · have e1 : (css ++ [c])[i] = css[i]'(by omega) := by rw [List.getElem_append_left (by omega)]
    have e2 : (l ++ [x])[i]'(by simp; omega) = l[i] := by rw [List.getElem_append_left hlt]
    rw [e1, e2]; exact key (h3 i hlt (by omega))
  · have e1 : (css ++ [c])[i] = c := by rw [List.getElem_append_right (by omega)]; simp
    have e2 : (l ++ [x])[i]'(by simp; omega) = x := by rw [List.getElem_append_right (by omega)]; simp
    rw [e1, e2]; exact key hx
theorem Grow.slIs (h : Grow B E w e s l) (hz : 0 < E.z) (hb : l.length ≤ 1099511627776) : SlIs E (fun k => B ≤ k ∧ k < w.heap.size) w s l := by
  obtain ⟨css, h1, h2, h3⟩ := h
  exact h1.is (fun k hk => h1.lt k hk) (by unfold Vc.big; omega) hz h2 (fun i hi hi' => E.mono (fun j hj => ⟨hj.1, hj.2.1⟩) (h3 i hi hi'))
end
/-- A store into a row. -/
theorem store_row {P : Program} {t e : TypeId} {w : World} {b o : Nat} {cs : List Value} {v : Value} {K : Value → World → Prop} (hi : (P.info? t).map (·.size) = some 1) (h : Row w b e cs) (ho : o < cs.length) (hv : v.oneCell' = true)
    (hK : ∀ w', Row w' b e (cs.set o v) → KeptBut b w w' → K undef w') : exU ((Instr.storeAt t (.pointer (some ⟨b, o, none⟩)) v).run P w) K :=
  exU.of (run_store1 hi h ho hv) (hK _ (h.set _) (setRow_but _ _ _))
theorem store_all {P : Program} {t e : TypeId} {w : World} {b : Nat} {cs new : List Value} {K : Value → World → Prop} (hi : (P.info? t).map (·.size) = some new.length) (h : Row w b e cs) (hl : cs.length = new.length) (hone : new.all (·.oneCell') = true)
    (hK : ∀ w', Row w' b e new → KeptBut b w w' → K undef w') : exU ((Instr.storeAt t (.pointer (some ⟨b, 0, none⟩)) (.agg new.toArray)).run P w) K :=
  exU.of (run_storeAll hi h rfl hl hone) (hK _ (h.set _) (setRow_but _ _ _))
theorem Row.but {w w' : World} {b k : Nat} {e : TypeId} {cs : List Value} (h : Row w b e cs) (hk : KeptBut k w w') (hne : b ≠ k) : Row w' b e cs := (hk.block b h.lt hne).trans h
theorem at_but {w w' : World} {b k : Nat} {o : Obj} (h : w.heap[b]? = some o) (hk : KeptBut k w w') (hne : b ≠ k) : w'.heap[b]? = some o := (hk.block b (Array.getElem?_eq_some_iff.1 h).1 hne).trans h
theorem at_keep {w w' : World} {b : Nat} {o : Obj} (h : w.heap[b]? = some o) (hk : Kept w w') : w'.heap[b]? = some o := (hk.block b (Array.getElem?_eq_some_iff.1 h).1).trans h
theorem at_lt {w : World} {b : Nat} {o : Obj} (h : w.heap[b]? = some o) : b < w.heap.size := (Array.getElem?_eq_some_iff.1 h).1
theorem KeptBut.kept2 {b : Nat} {W w w' : World} (h : Kept W w) (k : KeptBut b w w') (hb : W.heap.size ≤ b) : Kept W w' := KeptBut.kept h k hb
end Go.Vc
