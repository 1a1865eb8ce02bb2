/- Arguments, opened: what was read as data is a list, a string, a number in memory. Nothing of any program stands here. -/
import Derived.Test.YtcjdbmcklemkkaaDoorVcLaw
import Derived.Deep.Slices
import Derived.ChangeMaps5
namespace Go.Vc
open Go Go.RowKit Go.ChangeShapes Go.WideShapes Go.ChangeAt
set_option linter.unusedSimpArgs false
set_option linter.unusedVariables false
variable {H : Type} {enc : TypeId × Value → H} {P : Program} {w : World}

/-- What is read at the type e is one of E's elements. -/
def Opened (enc : TypeId × Value → H) (P : Program) (w : World) {α : Type} (e : TypeId) (E : El α) : Prop :=
  ∀ (spare : Nat → Bool) (held : Bool) (n : Nat) (cs : List Value) (d : DataW H × List MemPlace), DataW.trod enc P w 0 spare held n e cs = some d → ∃ x, E.rel (· < w.heap.size) w cs x

theorem opened_i32 {e : TypeId} (he : P.underlying e = some (.int .i32)) : Opened enc P w e (elInt .i32) := by
  intro spare held n cs d h
  obtain ⟨m, rfl, _, hw⟩ := DataW.trod_int he h
  refine ⟨m, rfl, ?_⟩
  simp only [Lit.wf, Bool.and_eq_true, decide_eq_true_eq] at hw
  have h1 : IntKind.i32.min = -2147483648 := rfl
  have h2 : IntKind.i32.max = 2147483647 := rfl
  exact wrap_i32 (by omega) (by omega)
theorem opened_i64 {e : TypeId} (he : P.underlying e = some (.int .i64)) : Opened enc P w e (elInt .i64) := by
  intro spare held n cs d h
  obtain ⟨m, rfl, _, hw⟩ := DataW.trod_int he h
  refine ⟨m, rfl, ?_⟩
  simp only [Lit.wf, Bool.and_eq_true, decide_eq_true_eq] at hw
  have h1 : IntKind.i64.min = -9223372036854775808 := rfl
  have h2 : IntKind.i64.max = 9223372036854775807 := rfl
  exact wrap_i64 (by omega) (by omega)
theorem u8_of {n : Int} (hw : (Lit.int .u8 n).wf = true) : ∃ c : UInt8, n = c.toNat := by
  simp only [Lit.wf, Bool.and_eq_true, decide_eq_true_eq] at hw
  have h1 : IntKind.u8.min = 0 := rfl
  have h2 : IntKind.u8.max = 255 := rfl
  refine ⟨UInt8.ofNat n.toNat, ?_⟩
  rw [UInt8.toNat_ofNat']; omega
theorem opened_u8 {e : TypeId} (he : P.underlying e = some (.int .u8)) : Opened enc P w e elU8 := by
  intro spare held n cs d h
  obtain ⟨m, rfl, _, hw⟩ := DataW.trod_int he h
  obtain ⟨c, rfl⟩ := u8_of hw
  exact ⟨c, rfl⟩
theorem opened_str {e : TypeId} (he : P.underlying e = some .string) : Opened enc P w e elStr := by
  intro spare held n cs d h
  obtain ⟨s, rfl, _, hs⟩ := DataW.trod_string he h
  refine ⟨s.toList, ?_, ?_⟩
  · rw [← eq_str]
  · have : s.toList.length = s.size := by conv => rhs; rw [eq_str s, str_size]
    rw [this]; unfold big; unfold maxLen at hs; omega

theorem choose_list {α : Type} {p : Nat → α → Prop} : ∀ (n : Nat), (∀ i, i < n → ∃ x, p i x) → ∃ l : List α, l.length = n ∧ ∀ i (hi : i < l.length), p i l[i]
  | 0, _ => ⟨[], rfl, fun i hi => by simp at hi⟩
  | n + 1, h => by
    obtain ⟨l, hl, hp⟩ := choose_list n (fun i hi => h i (by omega))
    obtain ⟨x, hx⟩ := h n (by omega)
    refine ⟨l ++ [x], by simp [hl], fun i hi => ?_⟩
    by_cases hlt : i < l.length
    · rw [List.getElem_append_left hlt]; exact hp i hlt
    · have : i = n := by simp at hi; omega
      subst this
      rw [List.getElem_append_right (by omega)]
      simpa using hx

theorem cell_lt {a : Addr} {v : Value} (h : w.cell? a = some v) : a.block < w.heap.size := by
  rcases Nat.lt_or_ge a.block w.heap.size with h' | h'
  · exact h'
  · simp [World.cell?, Array.getElem?_eq_none h'] at h

/-- A slice. -/
theorem opened_slice {α : Type} {E : El α} {t e : TypeId} (ht : P.underlying t = some (.slice e)) (hC : P.cellsOf e = E.z) (hz : 0 < E.z) (hE : Opened enc P w e E) : Opened enc P w t (elSl E) := by
  intro spare held n cs d h
  rcases Deep.open_slice ht h with ⟨rfl, _⟩ | ⟨a, len, cap, m, k, D, Pl, rfl, hb, hl, hm, hmm, _, hi⟩
  · exact ⟨[], ⟨none, 0, 0⟩, rfl, SlIs.nil _ _ _ _ _⟩
  · have hlm : len ≤ m := by rw [hmm]; split <;> omega
    rw [hC] at hi
    obtain ⟨l, hll, hp⟩ := choose_list (p := fun i (x : α) => ∃ cs', rowAt w (a.add (i * E.z)) cs' ∧ E.rel (· < w.heap.size) w cs' x) len (by
      intro i hil
      obtain ⟨cs', h1, h2⟩ := hi i (by omega)
      obtain ⟨x, hx⟩ := hE _ _ _ _ _ h2
      obtain ⟨_, h4, h5⟩ := World.cells?_some h1
      refine ⟨x, cs', fun j v hv => ?_, hx⟩
      have hj : j < E.z := by have := (List.getElem?_eq_some_iff.1 hv).1; omega
      rw [h5 j hj]; exact hv)
    refine ⟨l, ⟨some a, len, cap⟩, rfl, ⟨hll.symm, hl, by unfold big; unfold maxLen at hm; simp only; omega, fun h0 => ⟨a, rfl, ?_⟩, fun i hi => ?_⟩⟩
    · obtain ⟨cs', h1, h2⟩ := hp 0 (by simp only at h0; omega)
      have hcl := E.len h2
      have hc0 : w.cell? ((a.add (0 * E.z)).add 0) = some (cs'[0]'(by omega)) := h1 0 _ (List.getElem?_eq_getElem (by omega))
      have := cell_lt hc0
      rwa [add_block, add_block] at this
    · obtain ⟨cs', h1, h2⟩ := hp i hi
      exact ⟨cs', by rw [adr, Option.getD_some]; exact h1, h2⟩
theorem Opened.slice {α : Type} {E : El α} {t e : TypeId} (ht : P.underlying t = some (.slice e)) (hC : P.cellsOf e = E.z) (hz : 0 < E.z) (hE : Opened enc P w e E) {v : Value} {d : DataW H} {p : List MemPlace} (hone : v.cells = #[v]) (h : DataW.Trod enc P w 0 (fun _ => true) true t v d p) : ∃ (s : Sl) (l : List α), v = s.v ∧ Is E w s l := by
  obtain ⟨fuel, hf⟩ := h
  obtain ⟨l, s, hs, hi⟩ := opened_slice ht hC hz hE _ _ _ _ _ hf
  rw [hone] at hs
  simp only [List.cons.injEq, and_true] at hs
  exact ⟨s, l, hs, hi⟩
end Go.Vc
