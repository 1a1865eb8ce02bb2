/- Regions whose order of operations is left open: one order serves all, where what is read abides. Nothing of any program stands here. -/
import Derived.Test.YtcjdbmcklemkkaaDoorVcSimp
import Derived.OrdersHeld
import Derived.Still
import Derived.OrdersIn
namespace Go.Vc
open Go
set_option linter.unusedSimpArgs false
set_option linter.unusedVariables false

def isLoad : Op → Bool
  | .load _ _ => true
  | _ => false

/-- An order to walk in: what turns no memory, and the loads, as early as they may; all else alone. -/
def scriptOk (P : Program) (ops : Array Oper) : List Nat → Array Bool → Bool
  | [], listed => (Region.ready .any ops listed).isEmpty
  | i :: r, listed =>
    (match ops[i]? with
    | some o => if isPure P o.op || isLoad o.op then (Region.ready .any ops listed).contains i && Region.free .any ops listed i else Region.ready .any ops listed == [i]
    | none => false) && scriptOk P ops r (listed.setIfInBounds i true)

/-- Such an order, by program: what is taken first is taken as soon as it may. -/
def findOrder (P : Program) (ops : Array Oper) : Nat → Array Bool → List Nat
  | 0, _ => []
  | n + 1, listed =>
    let rs := Region.ready .any ops listed
    match rs.find? (fun i => match ops[i]? with | some o => (isPure P o.op || isLoad o.op) && Region.free .any ops listed i | none => false) with
    | some i => i :: findOrder P ops n (listed.setIfInBounds i true)
    | none => match rs with
      | i :: _ => i :: findOrder P ops n (listed.setIfInBounds i true)
      | [] => []

def opAt : List Oper → Nat → Oper
  | [], _ => ⟨none, .ready 0, 0, "", #[], none⟩
  | o :: _, 0 => o
  | _ :: r, i + 1 => opAt r i

def isNoY : Value → Prop
  | .func (.yield _) _ _ => False
  | _ => True
/-- No call of a round. -/
def noY (ρ : Operand → Value) : Op → Prop
  | .call ⟨.value f, _, _⟩ => isNoY (ρ f)
  | _ => True
section
variable {e : Env}
theorem eff_soundW {o : Oper} {ρ : Operand → Value} {w : World} {K : Value → World → Prop} (h : eff e o ρ w K) (hny : noY ρ o.op) {a : Act} (ha : execOp a.eval o = execOp ρ o) {next : Act → World → Prop} {Q : Exit → Act → World → Prop}
    (hK : ∀ v w', K v w' → next (a.put o.dst v) w') : o.wp e.P a w next Q := by
  unfold Oper.wp
  rw [ha]
  unfold eff at h
  split at h
  · rename_i t x ho
    obtain ⟨h1, h2⟩ := h
    obtain ⟨cs, hl, ⟨ad, hp, hr⟩, hk⟩ := exCells_out _ _ h2
    have := run_loadOp w h1 hl hr
    simp only [execOp, ho, Sem.run_bind, hp, this, Result.andThen_ok]
    exact hK _ _ hk
  · rename_i t ho
    obtain ⟨h1, h2⟩ := h
    obtain ⟨z, hz⟩ := Option.isSome_iff_exists.1 h1
    obtain ⟨i, hi, hz⟩ := Option.bind_eq_some_iff.1 hz
    have h3 : (Instr.alloc t true (.tuple #[])).run e.P w = .ok (.pointer (some ⟨w.heap.size, 0, none⟩)) (w.alloc (.cells (zcs e.P t) t)) := by
      simp [Instr.alloc, zeroValue, typeInfo, hi, hz, newVar, newRow, zcs]
    simp only [execOp, ho, Sem.run_bind, h3, Result.andThen_ok]
    exact hK _ _ h2
  · rename_i t len parts ho
    obtain ⟨h1, h2, h3, h4, h5⟩ := h
    have h6 := run_buildSliceOp (P := e.P) (t := t) (len := len) (parts := parts.map fun p => (p.1, ρ p.2)) w h1 h2 h3 (by simpa using h4)
    simp only [Array.toList_map] at h6
    simp only [execOp, ho, Sem.run_bind, h6, Result.andThen_ok]
    exact hK _ _ h5
  · rename_i t x ho
    have h3 : (Instr.box t (ρ x)).run e.P w = .ok (.pointer (some ⟨w.heap.size, 0, none⟩)) (w.alloc (.cells (ρ x).cells t)) := by
      simp [Instr.box, newVar, newRow]
    simp only [execOp, ho, Sem.run_bind, h3, Result.andThen_ok]
    exact hK _ _ h
  · rename_i t x y ho
    obtain ⟨w', h1, h2⟩ := h
    simp only [execOp, ho, Sem.run_bind, h1, Result.andThen_ok]
    exact hK _ _ h2
  · rename_i f xs ts ho
    unfold callE at h
    split at h
    · rename_i k first captured hf
      obtain ⟨hb, h1⟩ := h
      unfold hasBody at hb
      split at hb
      · rename_i fn hfn
        simp only [Bool.and_eq_true, Bool.not_eq_true'] at hb
        have hb2 : fn.body.isNone = false := by rw [← Option.not_isSome, hb.1]; rfl
        have hrun : (execOp ρ o).run e.P w = .ok (.enter k (first ++ xs.map ρ ++ captured)) w := by
          have hb3 : fn.name ≠ "runtime.NumGoroutine" := by simpa using hb.2
          have hb4 : fn.body ≠ none := by intro h0; rw [h0] at hb2; cases hb2
          simp [execOp, ho, resolve, hf, Deferred.ofValue, invoke, callFunc, hfn, hb3, hb4]
        rw [hrun]
        refine h1.mono fun x w' hx => ?_
        obtain ⟨v, rfl, hk⟩ := exShp_out hx
        exact hK _ _ hk
      · cases hb
    · rename_i l first captured hf
      rw [ho] at hny
      simp only [noY, hf, isNoY] at hny
    · exact h.elim
  · rename_i b xs ts ho
    obtain ⟨v, w', h1, h2⟩ := exShp_out h
    have hrun : (execOp ρ o).run e.P w = .ok (.value v) w' := by
      simp only [execOp, ho, resolve, Sem.run_bind, Sem.run_pure, Result.andThen_ok, invoke]
      exact h1
    rw [hrun]; exact hK _ _ h2
  · rename_i t x y z ho
    obtain ⟨w', h1, h2⟩ := h
    simp only [execOp, ho, Sem.run_bind, h1, Result.andThen_ok]
    exact hK _ _ h2
  · rename_i t x y z ho
    obtain ⟨w', h1, h2⟩ := h
    simp only [execOp, ho, Sem.run_bind, h1, Result.andThen_ok]
    exact hK _ _ h2
  · exact h.elim
  · exact h.elim
  · rename_i x y ho
    obtain ⟨v, w', h1, h2⟩ := h
    simp only [execOp, ho, Sem.run_bind, h1, Result.andThen_ok]
    exact hK _ _ h2
  · rename_i x y ho
    obtain ⟨v, w', h1, h2⟩ := h
    simp only [execOp, ho, Sem.run_bind, h1, Result.andThen_ok]
    exact hK _ _ h2
  · obtain ⟨v, w', h1, h2⟩ := exShp_out h
    rw [h1]; exact hK _ _ h2
end

/-- One operation; S is what abides. -/
def stepD (e : Env) (S : World → Prop) (all : List Oper) (o : Oper) (g : Nat → Bool) (f : F) (w : World) (K : (Nat → Bool) → F → World → Prop) : Prop :=
  if isPure e.P o.op = true then dstOk e.n o.dst ∧ (cnd all f g o = true → okOf e.P (ev f) o.op) ∧ readsFor f g (cnd all f g o) o.op ∧ K (updG g o.dst (cnd all f g o)) (updO e.n f o.dst (valOf e.P (ev f) o.op)) w
  else match o.op with
  | .load t x => dstOk e.n o.dst ∧ readsOk g (cnd all f g o) [x] ∧ ldOk e.P t = true ∧ exCells (cls e.P 8 t) fun cs => (cnd all f g o = true → ∃ a, ev f x = .pointer (some a) ∧ ∀ w', S w' → rowAt w' a cs) ∧ K (updG g o.dst (cnd all f g o)) (updO e.n f o.dst (mk1 (aggB e.P t) cs)) w
  | _ => dstOk e.n o.dst ∧ if cnd all f g o = true then readsOk g true o.op.operands.toList ∧ noY (ev f) o.op ∧ eff e o (ev f) w fun v w' => S w' ∧ K (updG g o.dst true) (updO e.n f o.dst v) w'
    else K g (updO e.n f o.dst undef) w

def vcD (e : Env) (R : Ending → World → Prop) (S : World → Prop) (m : Nat) (all : List Oper) (todo : List Item) : List Nat → (Nat → Bool) → F → World → Prop
  | [], g, f, w => vc e R m (.code todo) (real g f) w
  | i :: r, g, f, w => stepD e S all (opAt all i) g f w fun g' f' w' => vcD e R S m all todo r g' f' w'

theorem vcds {e : Env} {R : Ending → World → Prop} :
    (∀ (S : World → Prop) m all todo g f w, vcD e R S m all todo [] g f w = vc e R m (.code todo) (real g f) w) ∧
    (∀ (S : World → Prop) m all todo i r g f w, vcD e R S m all todo (i :: r) g f w = stepD e S all (opAt all i) g f w fun g' f' w' => vcD e R S m all todo r g' f' w') := by
  (repeat' apply And.intro) <;> intros <;> rfl
theorem vcds2 :
    (∀ (o : Oper) r, opAt (o :: r) 0 = o) ∧ (∀ (o : Oper) r i, opAt (o :: r) (i + 1) = opAt r i) := by
  (repeat' apply And.intro) <;> intros <;> rfl
theorem noYs :
    (∀ (ρ : Operand → Value) f xs ts, noY ρ (.call ⟨.value f, xs, ts⟩) = isNoY (ρ f)) ∧ (∀ (ρ : Operand → Value) b xs ts, noY ρ (.call ⟨.builtin b, xs, ts⟩) = True) ∧
    (∀ k a b, isNoY (.func (.func k) a b) = True) ∧ (∀ (ρ : Operand → Value) t l ps, noY ρ (.buildSlice t l ps) = True) ∧ (∀ (ρ : Operand → Value) t, noY ρ (.alloc t) = True) ∧
    (∀ (ρ : Operand → Value) t a x, noY ρ (.store t a x) = True) ∧ (∀ (ρ : Operand → Value) t x, noY ρ (.box t x) = True) ∧ (∀ (ρ : Operand → Value) a b x, noY ρ (.convert a b x) = True) ∧
    (∀ (ρ : Operand → Value) t a b, noY ρ (.makeSlice t a b) = True) ∧ (∀ (ρ : Operand → Value) t a b c, noY ρ (.lookup t a b c) = True) ∧ (∀ (ρ : Operand → Value) t a b c, noY ρ (.mapUpdate t a b c) = True) := by
  (repeat' apply And.intro) <;> intros <;> rfl
theorem vcds3 {e : Env} {S : World → Prop} {all : List Oper} {K : (Nat → Bool) → F → World → Prop} :
    (∀ d t x ty pos aft gd g f w, stepD e S all ⟨d, .load t x, ty, pos, aft, gd⟩ g f w K = (dstOk e.n d ∧ readsOk g (cnd all f g ⟨d, .load t x, ty, pos, aft, gd⟩) [x] ∧ ldOk e.P t = true ∧ exCells (cls e.P 8 t) fun cs => (cnd all f g ⟨d, .load t x, ty, pos, aft, gd⟩ = true → ∃ a, ev f x = .pointer (some a) ∧ ∀ w', S w' → rowAt w' a cs) ∧ K (updG g d (cnd all f g ⟨d, .load t x, ty, pos, aft, gd⟩)) (updO e.n f d (mk1 (aggB e.P t) cs)) w)) ∧
    (∀ o g f w, isPure e.P o.op = true → stepD e S all o g f w K = (dstOk e.n o.dst ∧ (cnd all f g o = true → okOf e.P (ev f) o.op) ∧ readsFor f g (cnd all f g o) o.op ∧ K (updG g o.dst (cnd all f g o)) (updO e.n f o.dst (valOf e.P (ev f) o.op)) w)) ∧
    (∀ o g f w, isPure e.P o.op = false → isLoad o.op = false → stepD e S all o g f w K = (dstOk e.n o.dst ∧ if cnd all f g o = true then readsOk g true o.op.operands.toList ∧ noY (ev f) o.op ∧ eff e o (ev f) w fun v w' => S w' ∧ K (updG g o.dst true) (updO e.n f o.dst v) w'
      else K g (updO e.n f o.dst undef) w)) := by
  (repeat' apply And.intro)
  · intros; unfold stepD; simp only [pures, Bool.false_eq_true, if_false]
  · intro o g f w h; unfold stepD; rw [if_pos h]
  · intro o g f w h h2; unfold stepD; rw [if_neg (by rw [h]; decide)]
    split
    · rename_i t x ho; rw [ho] at h2; cases h2
    · rfl

section
variable {e : Env} {R : Ending → World → Prop}

theorem vcD_sound (hres : e.fn.results = e.res.toArray) (hfn : e.P.funcs[e.k]? = some e.fn) {S : World → Prop} {m : Nat} {all : List Oper} {todo : List Item} (hs : Region.noSelect all.toArray = true) :
    ∀ (order : List Nat) (listed : Array Bool) (g : Nat → Bool) (f : F) (w : World) (a : Act), scriptOk e.P all.toArray order listed = true → S w → Fr e.n e.ds (real g f) a → vcD e R S m all todo order g f w →
      wpAnyH e.P .any all.toArray (fun x a' w' => x = .normal ∧ ∃ f', Fr e.n e.ds f' a' ∧ At e R todo f' w') S order.length listed a w := by
  intro order
  induction order with
  | nil =>
    intro listed g f w a hc hS ha h
    simp only [scriptOk, List.isEmpty_iff] at hc
    exact wpAnyH_done hc ⟨rfl, _, ha, show Sem e R (.code todo) _ _ from vc_sound hres hfn m _ _ _ h⟩ _
  | cons i r ih =>
    intro listed g f w a hc hS ha h
    simp only [scriptOk, Bool.and_eq_true] at hc
    obtain ⟨hc1, hc2⟩ := hc
    split at hc1
    case h_2 => cases hc1
    rename_i o ho
    have ho' : all[i]? = some o := by simpa using ho
    have hat : opAt all i = o := by
      clear h hc1 hc2 ho ih
      induction all generalizing i with
      | nil => simp at ho'
      | cons x l ih2 =>
        cases i with
        | zero => simpa [opAt] using ho'
        | succ i => exact ih2 (by unfold Region.noSelect at hs ⊢; simp at hs ⊢; exact hs.2) i (by simpa using ho')
    simp only [vcD, hat] at h
    have hw := wanted_cnd (all := all) (o := o) ha
    unfold stepD at h
    have hQ : ∀ (v : Value) (c : List PanicEntry) (a : Act) (w : World), (fun (x : Exit) (a' : Act) (w' : World) => x = .normal ∧ ∃ f', Fr e.n e.ds f' a' ∧ At e R todo f' w') (.panic c) (a.put o.dst v) w → (fun (x : Exit) (a' : Act) (w' : World) => x = .normal ∧ ∃ f', Fr e.n e.ds f' a' ∧ At e R todo f' w') (.panic c) a w := by
      rintro v c a w ⟨h, _⟩; cases h
    by_cases hp : isPure e.P o.op = true
    · rw [if_pos hp] at h
      rw [hp, Bool.true_or, if_pos rfl, Bool.and_eq_true] at hc1
      obtain ⟨hd, h1, h2, h3⟩ := h
      refine wpAnyH_take (v := if cnd all f g o = true then valOf e.P (ev f) o.op else undef) ho hs hc1.2 hc1.1 (hQ _) ?_ hS (ih _ _ _ _ _ hc2 hS (by rw [real_upd hd]; exact ha.put _ _) h3)
      cases hcn : cnd all f g o with
      | true =>
        rw [hcn] at hw h2
        refine .inl ⟨hw, fun w' _ => ?_⟩
        rw [readsFor_spec ha.eval hp h2 (pure_noSel hp) (h1 hcn), run_pure w' hp (h1 hcn)]; rfl
      | false =>
        rw [hcn] at hw
        exact .inr ⟨hw, rfl⟩
    · rw [if_neg hp] at h
      rw [show isPure e.P o.op = false by simpa using hp, Bool.false_or] at hc1
      split at h
      · rename_i t x hop
        rw [hop] at hc1
        simp only [isLoad, if_true, Bool.and_eq_true] at hc1
        obtain ⟨hd, h1, h0, h2⟩ := h
        obtain ⟨cs, hl, h3, h4⟩ := exCells_out _ _ h2
        refine wpAnyH_take (v := if cnd all f g o = true then mk1 (aggB e.P t) cs else undef) ho hs hc1.2 hc1.1 (hQ _) ?_ hS (ih _ _ _ _ _ hc2 hS (by rw [real_upd hd]; exact ha.put _ _) h4)
        cases hcn : cnd all f g o with
        | true =>
          rw [hcn] at hw h1
          obtain ⟨ad, hp2, hr⟩ := h3 hcn
          refine .inl ⟨hw, fun w' hS' => ?_⟩
          have e1 : a.eval x = ev f x := by rw [ha.eval]; exact readsOk_spec rfl h1 x (by simp)
          have := run_loadOp w' h0 hl (hr w' hS')
          simp only [execOp, hop, e1, hp2, Sem.run_bind, this, Result.andThen_ok]
          rfl
        | false =>
          rw [hcn] at hw
          exact .inr ⟨hw, rfl⟩
      · rename_i hnl
        have hl : isLoad o.op = false := by
          cases hop : o.op <;> first | rfl | exact absurd hop (hnl _ _)
        rw [hl, if_neg (by simp)] at hc1
        have hready : Region.ready .any all.toArray listed = [i] := by simpa using hc1
        obtain ⟨hd, h⟩ := h
        refine wpAnyH_all hready (by simp) (fun j hj => ?_)
        obtain rfl : j = i := by simpa using hj
        unfold wpOp
        rw [ho]
        simp only
        split at h
        · rename_i hcn
          rw [hcn] at hw
          obtain ⟨h1, hny, h2⟩ := h
          rw [if_pos hw]
          refine .inl (eff_soundW h2 hny (execOp_congr o (eff_noSel h2) (fun x hx => by rw [ha.eval]; exact readsOk_spec rfl h1 x (by simpa using hx))) fun v w' hk => ⟨hk.1, ih _ _ _ _ _ hc2 hk.1 ?_ hk.2⟩)
          rw [real_upd hd]
          exact ha.put _ _
        · rename_i hcn
          rw [show cnd all f g o = false by simpa using hcn] at hw
          rw [if_neg (by rw [hw]; decide)]
          refine ⟨hS, ih _ _ _ _ _ hc2 hS ?_ h⟩
          rw [real_updU hd]
          exact ha.put _ _

/-- A REGION THAT DRAWS ITS ORDER, walked in one order: S holds at its begin and behind each operation that may turn memory; what is loaded stands wherever S holds. -/
def noDefers (l : List Oper) : Bool := l.all fun o => match o.op with | .defer _ => false | _ => true
theorem noDefers_spec {l : List Oper} (h : noDefers l = true) {i : Nat} {o : Oper} (ho : l.toArray[i]? = some o) : ∀ c, o.op ≠ .defer c := by
  intro c hc
  have := List.all_eq_true.1 h o (List.mem_of_getElem? (by simpa using ho))
  rw [hc] at this; cases this
theorem rowsR {n : Nat} {row : String} {args : Array Value} {w : World} {R : Value → World → Prop} (h : Rows e.P row args w R) : RowsIn e.F n e.P row args w R := by
  intro c cs _
  obtain ⟨v, w', h1, h2⟩ := h c cs
  exact ⟨v, w', h1, stepsIn_wide.2 h2⟩
theorem wpAny_in {ops : Array Oper} {Q : Exit → Act → World → Prop} (hnd : ∀ (i : Nat) (o : Oper), ops[i]? = some o → ∀ c, o.op ≠ .defer c) (hQ : ¬ LetsOut Q) : ∀ (fuel : Nat) (listed : Array Bool) (a : Act) (w : World), wpAny e.P .any ops Q fuel listed a w → wpAnyIn e.F 0 e.P .any ops Q fuel listed a w
  | 0, _, _, _, h => h
  | fuel + 1, listed, a, w, h => by
    refine ⟨h.1, fun i hi => ?_⟩
    have h2 := h.2 i hi
    unfold wpOp at h2
    unfold wpOpIn
    cases ho : ops[i]? with
    | none => rw [ho] at h2; exact wpAny_in hnd hQ fuel _ _ _ h2
    | some o =>
      rw [ho] at h2
      simp only at h2 ⊢
      split
      · rename_i hw
        rw [if_pos hw] at h2
        rcases h2 with h2 | h2
        · refine wpIn_of (hnd i o ho) ?_
          unfold Oper.wp at h2
          revert h2
          generalize (execOp a.eval o).run e.P w = r
          intro h2
          unfold Oper.upon at h2
          split at h2
          · exact wpAny_in hnd hQ fuel _ _ _ h2
          · exact wpAny_in hnd hQ fuel _ _ _ h2
          · exact wpAny_in hnd hQ fuel _ _ _ h2
          · refine ⟨noDepth, callsR (h2.mono fun x w' hx => ?_)⟩
            cases x with
            | returned v => exact wpAny_in hnd hQ fuel _ _ _ hx
            | panicked ch => exact hx
            | outgrown => exact hx
          · exact ⟨noDepth, rowsR (h2.mono fun v w' hx => wpAny_in hnd hQ fuel _ _ _ hx)⟩
          · exact h2
          · exact h2.elim
        · exact absurd h2.2 hQ
      · rename_i hw
        rw [if_neg hw] at h2
        exact ⟨fun _ _ => trivial, wpAny_in hnd hQ fuel _ _ _ h2⟩

theorem At.drawn (hres : e.fn.results = e.res.toArray) (hfn : e.P.funcs[e.k]? = some e.fn) (hm : e.P.follows .mixedOrders = true) (S : World → Prop) (order : List Nat) {i : Nat} {l : List Oper} {todo : List Item} {f : F} {w : World}
    (hc : (Region.noSelect l.toArray && scriptOk e.P l.toArray order (Array.replicate l.length false) && (order.length == l.length) && noDefers l) = true) (hS : S w.drew) (m : Nat)
    (h : vcD e R S m l todo order gT f w.drew) : At e R (.code (.region i l.toArray true) :: todo) f w := by
  simp only [Bool.and_eq_true, beq_iff_eq] at hc
  refine At.of_wpIn fun a ha => wpIn_region_any hm ?_
  have := vcD_sound hres hfn (S := S) (m := m) hc.1.1.1 order (Array.replicate l.length false) gT f w.drew a hc.1.1.2 hS (by rw [real_gT]; exact ha) h
  rw [hc.1.2] at this
  have hq : ¬ LetsOut (fun (x : Exit) (a' : Act) (w' : World) => x = .normal ∧ ∃ f', Fr e.n e.ds f' a' ∧ At e R todo f' w') := by
    rintro ⟨_, _, hx, _⟩; cases hx
  refine wpAny_in (fun i o ho => noDefers_spec hc.2 ho) hq _ _ _ _ (wpAny_of_held (S := S) _ _ _ _ ?_)
  simpa using this
end
end Go.Vc
