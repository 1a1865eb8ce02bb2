/- A range over a function: the statement, and a round. Nothing of any program stands here. -/
import Derived.Test.YtcjdbmcklemkkaaDoorVcDrawn
import Derived.Test.YtcjdbmcklemkkaaDoorVcRep
namespace Go.Vc
open Go Go.RowKit
set_option linter.unusedSimpArgs false
set_option linter.unusedVariables false

section
variable {e : Env} {R : Ending → World → Prop} {todo : List Item} {f : F} {w : World}

theorem Ends.plain {e : Env} (hro : e.round = none) {a : Act} {todo : List Item} {w : World} (h : Ends e R a todo w) : ∀ cs, ∃ x w' fr, R x w' ∧ Comes e.P (lone (e.b.atR a todo) cs w) (lone fr cs w') x ∧ fr.fn = e.k ∧ fr.leaving e.P w' x := by
  unfold Ends at h; rw [hro] at h; exact h

/-- The loop's record as it is laid. -/
def loopRec (e : Env) (a : Act) (ps : Array Tmp) (assign body : Code) (D : Nat) : Loop := { state := .ready, pending := none, fn := e.k, tmps := a.tmps, params := ps, assign := assign, body := body, defers := D }
/-- The world in which the iterator is called. -/
def loopW (e : Env) (w : World) (a : Act) (ps : Array Tmp) (assign body : Code) : World := (w.alloc (.deferred (some []))).alloc (.loop (loopRec e a ps assign body w.heap.size))
def yv (L : Nat) : Value := .func (.yield L) #[] #[]

/-- 'for x := range g { .. }' -/
theorem At.rangeFunc {g : Operand} {ps : Array Tmp} {assign body : Code} (hro : e.round = none) (hds : e.ds = []) {k : FuncId} {captured : Array Value} (hg : ev f g = .func (.func k) #[] captured) (hb : hasBody e.P k = true)
    (h : ∀ a, Fr e.n [] f a → Calls e.P k (#[yv (w.heap.size + 1)] ++ captured) (loopW e w a ps assign body) fun x w3 => ∃ v jump w4, x = .returned v ∧ (Instr.endLoop (w.heap.size + 1)).run e.P w3 = .ok jump w4 ∧
      At { e with ds := [mark w.heap.size] } R ((jump.map Item.code).toList ++ todo) f w4) :
    At e R (.code (.rangeFunc g ps assign body) :: todo) f w := by
  intro a ha
  have ha' : Fr e.n [] f a := by have := ha; rw [hds] at this; exact this
  unfold Ends
  rw [hro]
  intro cs
  have hbn : e.b.roundOf = none := hro
  have he : (Instr.enterLoop e.b.fn a.tmps ps assign body e.b.roundOf).run e.P w = .ok (w.heap.size + 1, [mark w.heap.size]) (loopW e w a ps assign body) := by
    rw [hbn]
    have h1 : ∀ (o : Obj) (w : World), (newObj o).run e.P w = .ok w.heap.size (w.alloc o) := fun o w => rfl
    simp only [Instr.enterLoop, Sem.run_bind, h1, Result.andThen_ok, Sem.run_pure]
    show Result.ok ((w.alloc (.deferred (some []))).heap.size, _) _ = _
    rw [show (w.alloc (.deferred (some []))).heap.size = w.heap.size + 1 by simp only [World.alloc, Array.size_push]]
    rfl
  have hres : (resolve a.eval (rangeCall g (w.heap.size + 1)) 0).run e.P (loopW e w a ps assign body) = .ok { target := .fn (.func k) captured, args := #[yv (w.heap.size + 1)] } (loopW e w a ps assign body) := by
    have : a.eval g = .func (.func k) #[] captured := by rw [ha.eval]; exact hg
    simp only [resolve, rangeCall, this, Deferred.ofValue, yv]
    simp [Act.eval]
  have hinv : (invoke (.fn (.func k) captured) #[yv (w.heap.size + 1)]).run e.P (loopW e w a ps assign body) = .ok (.enter k (#[yv (w.heap.size + 1)] ++ captured)) (loopW e w a ps assign body) := by
    unfold hasBody at hb
    split at hb
    · rename_i fn hfn
      simp only [Bool.and_eq_true, Bool.not_eq_true'] at hb
      have hb3 : fn.name ≠ "runtime.NumGoroutine" := by simpa using hb.2
      have hb4 : fn.body ≠ none := by intro h0; rw [h0] at hb; simp at hb
      simp [invoke, callFunc, hfn, hb3, hb4]
    · cases hb
  have henter := stepR_rangeFunc (P := e.P) (b := e.b) (a := a) (k := todo) (cs := cs) (w := w) he hres hinv
  obtain ⟨x, w3, fr, hR, hc, hfr, hl⟩ := h a ha' (e.b.atR { a with defers := [mark w.heap.size] ++ a.defers } (.inRangeFunc (w.heap.size + 1) :: todo) :: cs)
  obtain ⟨v, jump, w4, rfl, hend, hat⟩ := hR
  have hback := step_leave_returned (c := e.b.atR { a with defers := [mark w.heap.size] ++ a.defers } (.inRangeFunc (w.heap.size + 1) :: todo)) (cs := cs) hl
  rw [finish_atR_inRangeFunc] at hback
  have hend2 := stepR_endRangeFunc (P := e.P) (b := e.b) (a := { a with defers := [mark w.heap.size] ++ a.defers }) (k := todo) (cs := cs) hend
  have hst : Steps e.P (lone (e.b.atR a (.code (.rangeFunc g ps assign body) :: todo)) cs w) (lone (e.b.atR { a with defers := [mark w.heap.size] ++ a.defers } ((jump.map Item.code).toList ++ todo)) cs w4) :=
    ((Steps.one henter).trans hc).trans ((Steps.one hback).trans (Steps.one hend2))
  have h2 := hat { a with defers := [mark w.heap.size] ++ a.defers } ⟨ha'.1, ha'.2.1, by rw [ha'.2.2]; rfl⟩
  obtain ⟨y, w5, fr2, hR2, hc2, r⟩ := Ends.plain hro h2 cs
  exact ⟨y, w5, fr2, hR2, Comes.of_steps hst hc2, r⟩

/-- A round: the assignment, its begin, the body. -/
theorem round_of_at {L : Nat} {tmps : Array Value} {assign body : Code} {w : World} {R : Ending → World → Prop} (hro : e.round = some L) (hds : e.ds = []) (hn : tmps.size = e.n)
    (h : ∀ f, (∀ t, tmps.getD t undef = f t) → At e R [.code assign, .beginRound, .code body] f w) :
    RoundIn Fence.wide 0 e.P L e.k tmps assign body w R := by
  refine ⟨trivial, fun c cs _ => ?_⟩
  have h2 := h (fun t => tmps.getD t undef) (fun _ => rfl) { tmps := tmps, defers := [] } ⟨hn, fun _ => rfl, hds.symm⟩
  unfold Ends at h2
  rw [hro] at h2
  obtain ⟨v, w', hR, hst⟩ := h2 c cs
  have hb0 : Frame.round L e.k tmps assign body .normal = e.b.atR { tmps := tmps, defers := [] } [.code assign, .beginRound, .code body] := by
    simp [Frame.round, Frame.atR, Env.b, hro]
  refine ⟨.returned v, w', hR, ?_⟩
  rw [hb0]
  exact stepsIn_wide.2 hst
end

/-! ### a loop's record in memory -/
/-- The object k is o. -/
def setO (w : World) (k : Nat) (o : Obj) : World := { w with heap := w.heap.setIfInBounds k o }
theorem setO_at {w : World} {k : Nat} {o o' : Obj} (h : w.heap[k]? = some o) : (setO w k o').heap[k]? = some o' := by
  have hlt : k < w.heap.size := (Array.getElem?_eq_some_iff.1 h).1
  simp [setO, hlt]
theorem setO_but (w : World) (k : Nat) (o : Obj) : KeptBut k w (setO w k o) :=
  ⟨rfl, rfl, rfl, by simp [setO], fun i _ hb => by simp [setO, Ne.symm hb]⟩
theorem runBegin {P : Program} {w : World} {L : Nat} {r : Loop} (h : w.heap[L]? = some (.loop r)) (hr : r.state = .ready) : (Instr.beginRound L).run P w = .ok () (setO w L (.loop { r with state := .busy })) := by
  have hgl : (Instr.getLoop L).run P w = .ok r w := by simp [Instr.getLoop, getObj, Sem.run, h]
  have hs : ∀ o, (setObj L o).run P w = .ok () (setO w L o) := fun o => by simp [setObj, Sem.run, h, setO]
  simp only [Instr.beginRound, Sem.run_bind, hgl, Result.andThen_ok, hs, hr]
  rfl
theorem runEnd {P : Program} {w : World} {L : Nat} {r : Loop} (h : w.heap[L]? = some (.loop r)) (j : Option Code) : (Instr.endRound L j).run P w = .ok (.bool j.isNone) (setO w L (.loop { r with state := if j.isNone then .ready else .done, pending := j })) := by
  have hgl : (Instr.getLoop L).run P w = .ok r w := by simp [Instr.getLoop, getObj, Sem.run, h]
  have hs : ∀ o, (setObj L o).run P w = .ok () (setO w L o) := fun o => by simp [setObj, Sem.run, h, setO]
  simp only [Instr.endRound, Sem.run_bind, hgl, Result.andThen_ok, hs]
  rfl
theorem runEndLoop {P : Program} {w : World} {L : Nat} {r : Loop} (h : w.heap[L]? = some (.loop r)) (hr : r.state ≠ .busy) : (Instr.endLoop L).run P w = .ok r.pending (setO w L (.loop { r with state := .exhausted })) := by
  have hgl : (Instr.getLoop L).run P w = .ok r w := by simp [Instr.getLoop, getObj, Sem.run, h]
  have hs : ∀ o, (setObj L o).run P w = .ok () (setO w L o) := fun o => by simp [setObj, Sem.run, h, setO]
  have hb : (r.state == .busy) = false := by cases hh : r.state <;> first | rfl | exact absurd hh hr
  simp only [Instr.endLoop, Sem.run_bind, hgl, Result.andThen_ok, hb, Bool.false_eq_true, if_false, hs]
  rfl
theorem run_takeD {P : Program} {w : World} {D : Nat} (h : w.heap[D]? = some (.deferred (some []))) : (Instr.takeDeferred D).run P w = .ok [] (setO w D (.deferred none)) := by
  have hs : ∀ o, (setObj D o).run P w = .ok () (setO w D o) := fun o => by simp [setObj, Sem.run, h, setO]
  have hg : (getObj D).run P w = .ok (.deferred (some [])) w := by simp [getObj, Sem.run, h]
  simp only [Instr.takeDeferred, Sem.run_bind, hg, Result.andThen_ok, hs]
  rfl
theorem Mine.butObj {α : Type} {W w w' : World} {e z : Nat} {f : α → List Value} {s : Sl} {l : List α} (h : Mine W w e z f s l) {k : Nat} {o : Obj} (hk : w.heap[k]? = some o) (ho : ∀ c fz, o ≠ .cells c e fz) (hW : W.heap.size ≤ k) (hb : KeptBut k w w') : Mine W w' e z f s l := by
  have hg : w.grownBy w' (some k) := ⟨hb.os, hb.tape, hb.output, hb.size, fun i hi hn => hb.block i hi (fun h => hn (by rw [h]))⟩
  refine ⟨h.own.kept hg ?_, KeptBut.kept h.kept hb hW⟩
  rcases h.own.2 with ⟨hv, _⟩ | ⟨g, cap, cur, hv, hg', hh, _⟩
  · left; rw [Sl.blk, hv]; rfl
  · right
    rw [Sl.blk, hv]
    intro hb2
    simp only [Value.ownBlock, Option.some.injEq] at hb2
    subst hb2
    rw [hk] at hh
    simp only [Option.some.injEq] at hh
    exact ho _ _ hh

/-- 'for x := range g { .. }', with the loop's record by what it holds. -/
theorem At.range {e : Env} {R : Ending → World → Prop} {todo : List Item} {f : F} {w : World} {g : Operand} {ps : Array Tmp} {assign body : Code} (hro : e.round = none) (hds : e.ds = []) {k : FuncId} {captured : Array Value} (hg : ev f g = .func (.func k) #[] captured) (hb : hasBody e.P k = true)
    (h : ∀ (a : Act) (rec : Loop) (w2 : World), Fr e.n [] f a → rec.fn = e.k → rec.tmps = a.tmps → rec.params = ps → rec.assign = assign → rec.body = body → rec.state = .ready → rec.pending = none →
      w2.heap[w.heap.size + 1]? = some (.loop rec) → w2.heap[w.heap.size]? = some (.deferred (some [])) → Kept w w2 → w2.heap.size = w.heap.size + 2 →
      Calls e.P k (#[yv (w.heap.size + 1)] ++ captured) w2 fun x w3 => ∃ v jump w4, x = .returned v ∧ (Instr.endLoop (w.heap.size + 1)).run e.P w3 = .ok jump w4 ∧
      At { e with ds := [mark w.heap.size] } R ((jump.map Item.code).toList ++ todo) f w4) :
    At e R (.code (.rangeFunc g ps assign body) :: todo) f w := by
  refine At.rangeFunc hro hds hg hb fun a ha => h a (loopRec e a ps assign body w.heap.size) _ ha rfl rfl rfl rfl rfl rfl rfl ?_ ?_ (((Kept.refl w).alloc _).alloc _) ?_
  · show ((w.alloc _).heap.push _)[w.heap.size + 1]? = _
    have hz : (w.alloc (.deferred (some []))).heap.size = w.heap.size + 1 := by simp only [World.alloc, Array.size_push]
    rw [Array.getElem?_push, if_pos hz.symm]
  · show ((w.heap.push _).push _)[w.heap.size]? = _
    rw [Array.getElem?_push, if_neg (by simp), Array.getElem?_push, if_pos rfl]
  · simp only [loopW, World.alloc, Array.size_push]

/-- A round's frame: yield's word is in its slot. -/
theorem round_of {e : Env} {L : Nat} {rec : Loop} {a : Act} {f : F} {t : Nat} {v : Value} {w : World} {R : Ending → World → Prop} {assign body : Code} (hro : e.round = some L) (hds : e.ds = []) (ha : Fr e.n [] f a) (hfn : rec.fn = e.k) (htm : rec.tmps = a.tmps) (hps : rec.params = #[t]) (has : rec.assign = assign) (hbd : rec.body = body)
    (h : At e R [.code assign, .beginRound, .code body] (upd e.n f t v) w) :
    RoundIn Fence.wide 0 e.P L rec.fn ((rec.params.zip #[v]).foldl (fun tmps (t, a) => tmps.setIfInBounds t a) rec.tmps) rec.assign rec.body w R := by
  rw [hfn, htm, hps, has, hbd]
  have hput := ha.put (some t) v
  have he : (((#[t] : Array Nat).zip #[v]).foldl (fun tmps (x : Nat × Value) => tmps.setIfInBounds x.1 x.2) a.tmps) = (a.put (some t) v).tmps := by simp [Act.put]
  refine (show RoundIn Fence.wide 0 e.P L e.k (((#[t] : Array Nat).zip #[v]).foldl (fun tmps (x : Nat × Value) => tmps.setIfInBounds x.1 x.2) a.tmps) assign body w R from ?_)
  rw [he]
  refine round_of_at hro hds hput.1 fun f' hf' => ?_
  have : f' = upd e.n f t v := by funext i; rw [← hf' i]; exact hput.2.1 i
  rw [this]; exact h
theorem Mine.otherRow {α : Type} {W w w' : World} {e e' z : Nat} {f : α → List Value} {s : Sl} {l : List α} (h : Mine W w e z f s l) (hg : w.grownBy w' s.blk) {b : Nat} {cs : List Value} (hb : Row w b e' cs) (hne : e' ≠ e) : Row w' b e' cs := by
  refine (hg.block b hb.lt ?_).trans hb
  intro hb2
  rcases h.own.2 with ⟨hv, _⟩ | ⟨g, cap, cur, hv, hg', hh, _⟩
  · rw [Sl.blk, hv] at hb2; cases hb2
  · rw [Sl.blk, hv] at hb2
    simp only [Value.ownBlock, Option.some.injEq] at hb2
    subst hb2
    have := hb.symm.trans hh
    simp only [Option.some.injEq, Obj.cells.injEq] at this
    exact hne this.2.1
theorem Mine.butRow {α : Type} {W w w' : World} {e e' z : Nat} {f : α → List Value} {s : Sl} {l : List α} (h : Mine W w e z f s l) {b : Nat} {cs : List Value} (hb : Row w b e' cs) (hne : e' ≠ e) (hW : W.heap.size ≤ b) (hk : KeptBut b w w') : Mine W w' e z f s l :=
  h.butObj hb (fun c fz h => by simp only [Obj.cells.injEq] at h; exact hne h.2.1) hW hk

/-! ### the same of a row of the call's own, whatever its floor -/
theorem Own.other {w w' : World} {B e z : Nat} {s : Sl} {cs : List Value} (h : Own w B e z s cs) (hg : w.grownBy w' s.blk) {k : Nat} {o : Obj} (hk : w.heap[k]? = some o) (ho : (∀ c fz, o ≠ .cells c e fz) ∨ k < B) : w'.heap[k]? = some o := by
  have hlt : k < w.heap.size := (Array.getElem?_eq_some_iff.1 hk).1
  rw [hg.block k hlt, hk]
  intro hb
  have hB := h.lt k hb.symm
  rcases ho with ho | ho
  · rcases h.2 with ⟨hv, _⟩ | ⟨g, cap, cur, hv, hg', hh, _⟩
    · rw [Sl.blk, hv] at hb; cases hb
    · rw [Sl.blk, hv] at hb
      simp only [Value.ownBlock, Option.some.injEq] at hb
      subst hb
      rw [hk] at hh
      simp only [Option.some.injEq] at hh
      exact ho _ _ hh
  · omega
theorem Own.but {w w' : World} {B e z : Nat} {s : Sl} {cs : List Value} (h : Own w B e z s cs) {k : Nat} (hk : k < B) (hb : KeptBut k w w') : Own w' B e z s cs := by
  have hg : w.grownBy w' (some k) := ⟨hb.os, hb.tape, hb.output, hb.size, fun i hi hn => hb.block i hi (fun h => hn (by rw [h]))⟩
  refine h.kept hg ?_
  cases hs : s.blk with
  | none => exact .inl rfl
  | some g => right; intro h2; simp only [Option.some.injEq] at h2; have := h.lt g hs; omega
theorem Own.down {w : World} {B B' e z : Nat} {s : Sl} {cs : List Value} (h : Own w B e z s cs) (hB : B' ≤ B) : Own w B' e z s cs := by
  refine ⟨h.1, ?_⟩
  rcases h.2 with hl | ⟨g, cap, cur, h1, h2, h3, rest⟩
  · exact .inl hl
  · exact .inr ⟨g, cap, cur, h1, Nat.le_trans hB h2, h3, rest⟩

/-! ### loads that the walk itself carries out: what stands in a block, as rewriting rules -/
theorem Row.rd {w : World} {b : Nat} {e : TypeId} {cs : List Value} (h : Row w b e cs) {i : Nat} {v : Value} (hv : cs[i]? = some v) (u : Value) : rowAt w ⟨b, i, none⟩ [u] = (u = v) := by
  apply propext
  constructor
  · intro hr
    have := hr 0 u rfl
    rw [Addr.add_lit, Nat.add_zero, h.cell, hv] at this
    simpa using this.symm
  · rintro rfl; exact h.at_ hv
theorem Row.rdInt {w : World} {b : Nat} {e : TypeId} {cs : List Value} (h : Row w b e cs) {i : Nat} {k : IntKind} {v : Int} (hv : cs[i]? = some (.int k v)) (n : Int) : rowAt w ⟨b, i, none⟩ [.int k n] = (n = v) := by rw [h.rd hv]; simp
theorem Row.rdStr {w : World} {b : Nat} {e : TypeId} {cs : List Value} (h : Row w b e cs) {i : Nat} {v : ByteArray} (hv : cs[i]? = some (.string v)) (n : ByteArray) : rowAt w ⟨b, i, none⟩ [.string n] = (n = v) := by rw [h.rd hv]; simp
theorem Sl.v_inj {s t : Sl} : (s.v = t.v) = (s = t) := by
  cases s; cases t; simp [Sl.v]
theorem Row.rdSl {w : World} {b : Nat} {e : TypeId} {cs : List Value} (h : Row w b e cs) {i : Nat} {v : Sl} (hv : cs[i]? = some v.v) (n : Sl) : rowAt w ⟨b, i, none⟩ [n.v] = (n = v) := by rw [h.rd hv, Sl.v_inj]
theorem Row.rdBool {w : World} {b : Nat} {e : TypeId} {cs : List Value} (h : Row w b e cs) {i : Nat} {v : Bool} (hv : cs[i]? = some (.bool v)) (n : Bool) : rowAt w ⟨b, i, none⟩ [.bool n] = (n = v) := by rw [h.rd hv]; simp
end Go.Vc
