/- Regions whose order of operations is left open: a tree of orders, where more than one operation that turns memory may come next. Nothing of any program stands here. -/
import Derived.Test.YtcjdbmcklemkkaaDoorVcStop
namespace Go.Vc
open Go
set_option linter.unusedSimpArgs false
set_option linter.unusedVariables false

/-- The orders: a step, or several ways to go on ('alt i r s': i first and then r; or as s says). -/
inductive Scr | done | step (i : Nat) (r : Scr) | alt (i : Nat) (r s : Scr) | none
def Scr.alts : Scr → List (Nat × Scr)
  | .alt i r s => (i, r) :: s.alts
  | _ => []

def scrOk (P : Program) (ops : Array Oper) : Nat → Scr → Array Bool → Bool
  | 0, s, listed => (match s with | .done => true | _ => false) && (Region.ready .any ops listed).isEmpty
  | n + 1, .step i r, listed =>
    (match ops[i]? with
    | some o => if isPure P o.op || isLoad o.op then (Region.ready .any ops listed).contains i && Region.free .any ops listed i else Region.ready .any ops listed == [i]
    | .none => false) && scrOk P ops n r (listed.setIfInBounds i true)
  | n + 1, .alt i r s, listed =>
    Region.ready .any ops listed == (i, r).1 :: s.alts.map (·.1) && ((i, r) :: s.alts).all (fun x =>
      (match ops[x.1]? with
      | some o => !(isPure P o.op || isLoad o.op)
      | .none => false) && scrOk P ops n x.2 (listed.setIfInBounds x.1 true))
  | _, _, _ => false

def vcS (e : Env) (R : Ending → World → Prop) (S : World → Prop) (m : Nat) (all : List Oper) (todo : List Item) : Scr → (Nat → Bool) → F → World → Prop
  | .done, g, f, w => vc e R m (.code todo) (real g f) w
  | .step i r, g, f, w => stepD e S all (opAt all i) g f w fun g' f' w' => vcS e R S m all todo r g' f' w'
  | .alt i r s, g, f, w => (stepD e S all (opAt all i) g f w fun g' f' w' => vcS e R S m all todo r g' f' w') ∧ vcS e R S m all todo s g f w
  | .none, _, _, _ => True

theorem vcS_alts {e : Env} {R : Ending → World → Prop} {S : World → Prop} {m : Nat} {all : List Oper} {todo : List Item} {g : Nat → Bool} {f : F} {w : World} : ∀ (s : Scr), vcS e R S m all todo s g f w → ∀ x ∈ s.alts, stepD e S all (opAt all x.1) g f w fun g' f' w' => vcS e R S m all todo x.2 g' f' w'
  | .alt i r s, h, x, hx => by
    simp only [Scr.alts, List.mem_cons] at hx
    rcases hx with rfl | hx
    · exact h.1
    · exact vcS_alts s h.2 x hx
  | .done, _, x, hx => by cases hx
  | .step _ _, _, x, hx => by cases hx
  | .none, _, x, hx => by cases hx

theorem opAt_get {all : List Oper} {i : Nat} {o : Oper} (h : all[i]? = some o) : opAt all i = o := by
  induction all generalizing i with
  | nil => simp at h
  | cons x l ih =>
    cases i with
    | zero => simpa [opAt] using h
    | succ i => exact ih (by simpa using h)

section
variable {e : Env} {R : Ending → World → Prop}

/-- One that turns memory, and may come next. -/
theorem stepD_eff {S : World → Prop} {m : Nat} {all : List Oper} {todo : List Item} {g : Nat → Bool} {f : F} {w : World} {a : Act} {i : Nat} {o : Oper} {r : Scr} {N : Nat} {listed : Array Bool} (ho : all[i]? = some o) (hp : isPure e.P o.op = false) (hl : isLoad o.op = false) (hS : S w) (ha : Fr e.n e.ds (real g f) a)
    (h : stepD e S all o g f w fun g' f' w' => vcS e R S m all todo r g' f' w')
    (ih : ∀ (g : Nat → Bool) (f : F) (w : World) (a : Act), S w → Fr e.n e.ds (real g f) a → vcS e R S m all todo r g f w →
      wpAnyH e.P .any all.toArray (fun x a' w' => x = .normal ∧ ∃ f', Fr e.n e.ds f' a' ∧ At e R todo f' w') S N (listed.setIfInBounds i true) a w) :
    wpOp e.P all.toArray (fun x a' w' => x = .normal ∧ ∃ f', Fr e.n e.ds f' a' ∧ At e R todo f' w') i (fun a' w' => S w' ∧ wpAnyH e.P .any all.toArray (fun x a' w' => x = .normal ∧ ∃ f', Fr e.n e.ds f' a' ∧ At e R todo f' w') S N (listed.setIfInBounds i true) a' w') a w := by
  have ho' : all.toArray[i]? = some o := by simpa using ho
  have hw := wanted_cnd (all := all) (o := o) ha
  unfold stepD at h
  rw [if_neg (by rw [hp]; decide)] at h
  unfold wpOp
  rw [ho']
  simp only
  split at h
  · rename_i t x hop; rw [hop] at hl; cases hl
  · obtain ⟨hd, h⟩ := h
    split at h
    · rename_i hcn
      rw [hcn] at hw
      obtain ⟨h1, hny, h2⟩ := h
      rw [if_pos hw]
      refine .inl (eff_soundW h2 hny (execOp_congr o (eff_noSel h2) (fun x hx => by rw [ha.eval]; exact readsOk_spec rfl h1 x (by simpa using hx))) fun v w' hk => ⟨hk.1, ih _ _ _ _ hk.1 ?_ hk.2⟩)
      rw [real_upd hd]
      exact ha.put _ _
    · rename_i hcn
      rw [show cnd all f g o = false by simpa using hcn] at hw
      rw [if_neg (by rw [hw]; decide)]
      refine ⟨hS, ih _ _ _ _ hS ?_ h⟩
      rw [real_updU hd]
      exact ha.put _ _

theorem vcS_sound (hres : e.fn.results = e.res.toArray) (hfn : e.P.funcs[e.k]? = some e.fn) {S : World → Prop} {m : Nat} {all : List Oper} {todo : List Item} (hs : Region.noSelect all.toArray = true) :
    ∀ (n : Nat) (s : Scr) (listed : Array Bool) (g : Nat → Bool) (f : F) (w : World) (a : Act), scrOk e.P all.toArray n s listed = true → S w → Fr e.n e.ds (real g f) a → vcS e R S m all todo s g f w →
      wpAnyH e.P .any all.toArray (fun x a' w' => x = .normal ∧ ∃ f', Fr e.n e.ds f' a' ∧ At e R todo f' w') S n listed a w := by
  intro n
  induction n with
  | zero =>
    intro s listed g f w a hc hS ha h
    simp only [scrOk, Bool.and_eq_true, List.isEmpty_iff] at hc
    cases s <;> simp only [Bool.false_eq_true, false_and] at hc
    exact wpAnyH_done hc.2 ⟨rfl, _, ha, show Sem e R (.code todo) _ _ from vc_sound hres hfn m _ _ _ h⟩ _
  | succ n ih =>
    intro s listed g f w a hc hS ha h
    cases s with
    | done => simp [scrOk] at hc
    | none => simp [scrOk] at hc
    | step i r =>
      simp only [scrOk, Bool.and_eq_true] at hc
      obtain ⟨hc1, hc2⟩ := hc
      split at hc1
      case h_2 => cases hc1
      rename_i o ho
      have ho2 : all[i]? = some o := by simpa using ho
      have hat := opAt_get ho2
      simp only [vcS, hat] at h
      have hw := wanted_cnd (all := all) (o := o) ha
      have hQ : ∀ (v : Value) (c : List PanicEntry) (a : Act) (w : World), (fun (x : Exit) (a' : Act) (w' : World) => x = .normal ∧ ∃ f', Fr e.n e.ds f' a' ∧ At e R todo f' w') (.panic c) (a.put o.dst v) w → (fun (x : Exit) (a' : Act) (w' : World) => x = .normal ∧ ∃ f', Fr e.n e.ds f' a' ∧ At e R todo f' w') (.panic c) a w := by
        rintro v c a w ⟨h, _⟩; cases h
      by_cases hp : isPure e.P o.op = true
      · unfold stepD at h
        rw [if_pos hp] at h
        rw [hp, Bool.true_or, if_pos rfl, Bool.and_eq_true] at hc1
        obtain ⟨hd, h1, h2, h3⟩ := h
        refine wpAnyH_take (v := if cnd all f g o = true then valOf e.P (ev f) o.op else undef) ho hs hc1.2 hc1.1 (hQ _) ?_ hS (ih _ _ _ _ _ _ hc2 hS (by rw [real_upd hd]; exact ha.put _ _) h3)
        cases hcn : cnd all f g o with
        | true =>
          rw [hcn] at hw h2
          refine .inl ⟨hw, fun w' _ => ?_⟩
          rw [readsFor_spec ha.eval hp h2 (pure_noSel hp) (h1 hcn), run_pure w' hp (h1 hcn)]; rfl
        | false =>
          rw [hcn] at hw
          exact .inr ⟨hw, rfl⟩
      · have hp' : isPure e.P o.op = false := by simpa using hp
        rw [hp', Bool.false_or] at hc1
        cases hl : isLoad o.op with
        | true =>
          unfold stepD at h
          rw [if_neg hp] at h
          rw [hl, if_pos rfl, Bool.and_eq_true] at hc1
          split at h
          · rename_i t x hop
            obtain ⟨hd, h1, h0, h2⟩ := h
            obtain ⟨cs, hl, h3, h4⟩ := exCells_out _ _ h2
            refine wpAnyH_take (v := if cnd all f g o = true then mk1 (aggB e.P t) cs else undef) ho hs hc1.2 hc1.1 (hQ _) ?_ hS (ih _ _ _ _ _ _ hc2 hS (by rw [real_upd hd]; exact ha.put _ _) h4)
            cases hcn : cnd all f g o with
            | true =>
              rw [hcn] at hw h1
              obtain ⟨ad, hp2, hr⟩ := h3 hcn
              refine .inl ⟨hw, fun w' hS' => ?_⟩
              have e1 : a.eval x = ev f x := by rw [ha.eval]; exact readsOk_spec rfl h1 x (by simp)
              have := run_loadOp w' h0 hl (hr w' hS')
              simp only [execOp, hop, e1, hp2, Sem.run_bind, this, Result.andThen_ok]
              rfl
            | false =>
              rw [hcn] at hw
              exact .inr ⟨hw, rfl⟩
          · rename_i hnl
            cases hop : o.op <;> rw [hop] at hl <;> first | exact absurd hop (hnl _ _) | cases hl
        | false =>
          rw [hl, if_neg (by decide)] at hc1
          have hready : Region.ready .any all.toArray listed = [i] := by simpa using hc1
          refine wpAnyH_all hready (by simp) (fun j hj => ?_)
          obtain rfl : j = i := by simpa using hj
          exact stepD_eff ho2 hp' hl hS ha h (fun g f w a h1 h2 h3 => ih _ _ _ _ _ _ hc2 h1 h2 h3)
    | alt i r s =>
      simp only [scrOk, Bool.and_eq_true, beq_iff_eq, List.all_eq_true] at hc
      obtain ⟨hready, hall⟩ := hc
      refine wpAnyH_all hready (by simp) (fun j hj => ?_)
      have hj2 : j ∈ ((i, r) :: s.alts).map (·.1) := by simpa using hj
      obtain ⟨⟨j', r'⟩, hx, rfl⟩ := List.mem_map.1 hj2
      have hc := hall _ hx
      simp only at hc
      obtain ⟨hc1, hc2⟩ := hc
      split at hc1
      case h_2 => cases hc1
      rename_i o ho
      simp only [Bool.not_eq_true', Bool.or_eq_false_iff] at hc1
      have ho2 : all[j']? = some o := by simpa using ho
      have h2 := vcS_alts _ h (j', r') hx
      rw [opAt_get ho2] at h2
      exact stepD_eff ho2 hc1.1 hc1.2 hS ha h2 (fun g f w a h1 h2 h3 => ih _ _ _ _ _ _ hc2 h1 h2 h3)

theorem At.drawnT (hres : e.fn.results = e.res.toArray) (hfn : e.P.funcs[e.k]? = some e.fn) (hm : e.P.follows .mixedOrders = true) (S : World → Prop) (s : Scr) {i : Nat} {l : List Oper} {todo : List Item} {f : F} {w : World}
    (hc : (Region.noSelect l.toArray && scrOk e.P l.toArray l.length s (Array.replicate l.length false) && noDefers l) = true) (hS : S w.drew) (m : Nat)
    (h : vcS e R S m l todo s gT f w.drew) : At e R (.code (.region i l.toArray true) :: todo) f w := by
  simp only [Bool.and_eq_true] at hc
  refine At.of_wpIn fun a ha => wpIn_region_any hm ?_
  have := vcS_sound hres hfn (S := S) (m := m) hc.1.1 l.length s (Array.replicate l.length false) gT f w.drew a hc.1.2 hS (by rw [real_gT]; exact ha) h
  have hq : ¬ LetsOut (fun (x : Exit) (a' : Act) (w' : World) => x = .normal ∧ ∃ f', Fr e.n e.ds f' a' ∧ At e R todo f' w') := by
    rintro ⟨_, _, hx, _⟩; cases hx
  refine wpAny_in (fun i o ho => noDefers_spec hc.2 ho) hq _ _ _ _ (wpAny_of_held (S := S) _ _ _ _ ?_)
  simpa using this
end

/-! ### the tree, stopping -/
def stepT (e : Env) (R : Ending → World → Prop) (S : World → Prop) (m : Nat) (all : List Oper) (todo : List Item) (r : Scr) (o : Oper) (g : Nat → Bool) (f : F) (w : World) : Prop := stepD e S all o g f w fun g' f' w' => vcS e R S m all todo r g' f' w'
def tL (e : Env) (R : Ending → World → Prop) (S : World → Prop) (m : Nat) (all : List Oper) (todo : List Item) (r : Scr) (g : Nat → Bool) (f : F) (d : Option Nat) (w : World) (v : Value) : Prop := vcS e R S m all todo r (updG g d true) (updO e.n f d v) w
def tLT (e : Env) (R : Ending → World → Prop) (S : World → Prop) (m : Nat) (all : List Oper) (todo : List Item) (r : Scr) (g : Nat → Bool) (f : F) (d : Option Nat) (w : World) (t : TypeId) (x : Operand) (_ : Unit) : Prop := LoadsD e.P t (ev f x) S (tL e R S m all todo r g f d w)
def tLF (e : Env) (R : Ending → World → Prop) (S : World → Prop) (m : Nat) (all : List Oper) (todo : List Item) (r : Scr) (g : Nat → Bool) (f : F) (d : Option Nat) (w : World) (t : TypeId) (_ : Unit) : Prop := exCells (cls e.P 8 t) fun cs => vcS e R S m all todo r (updG g d false) (updO e.n f d (mk1 (aggB e.P t) cs)) w
def tE (e : Env) (R : Ending → World → Prop) (S : World → Prop) (m : Nat) (all : List Oper) (todo : List Item) (r : Scr) (g : Nat → Bool) (f : F) (d : Option Nat) (v : Value) (w : World) : Prop := S w ∧ vcS e R S m all todo r (updG g d true) (updO e.n f d v) w
def tEF (e : Env) (R : Ending → World → Prop) (S : World → Prop) (m : Nat) (all : List Oper) (todo : List Item) (r : Scr) (g : Nat → Bool) (f : F) (w : World) (_ : Unit) : Prop := vcS e R S m all todo r g f w

theorem vst {e : Env} {R : Ending → World → Prop} :
    (∀ (S : World → Prop) m all todo g f w, vcS e R S m all todo .done g f w = vc e R m (.code todo) (real g f) w) ∧
    (∀ (S : World → Prop) m all todo g f w, vcS e R S m all todo .none g f w = True) ∧
    (∀ (S : World → Prop) m all todo i r g f w, vcS e R S m all todo (.step i r) g f w = stepT e R S m all todo r (opAt all i) g f w) ∧
    (∀ (S : World → Prop) m all todo i r s g f w, vcS e R S m all todo (.alt i r s) g f w = (stepT e R S m all todo r (opAt all i) g f w ∧ vcS e R S m all todo s g f w)) ∧
    (∀ (S : World → Prop) m all todo r d t x ty pos aft gd g f w, stepT e R S m all todo r ⟨d, .load t x, ty, pos, aft, gd⟩ g f w = (dstOk e.n d ∧ readsOk g (cnd all f g ⟨d, .load t x, ty, pos, aft, gd⟩) [x] ∧ ldOk e.P t = true ∧ gdo (cnd all f g ⟨d, .load t x, ty, pos, aft, gd⟩) (tLT e R S m all todo r g f d w t x) (tLF e R S m all todo r g f d w t))) ∧
    (∀ (S : World → Prop) m all todo r o g f w, isPure e.P o.op = true → stepT e R S m all todo r o g f w = (dstOk e.n o.dst ∧ (cnd all f g o = true → okOf e.P (ev f) o.op) ∧ readsFor f g (cnd all f g o) o.op ∧ vcS e R S m all todo r (updG g o.dst (cnd all f g o)) (updO e.n f o.dst (valOf e.P (ev f) o.op)) w)) ∧
    (∀ (S : World → Prop) m all todo r o g f w, isPure e.P o.op = false → isLoad o.op = false → stepT e R S m all todo r o g f w = (dstOk e.n o.dst ∧ gdo (cnd all f g o) (dET e o g f w (tE e R S m all todo r g f o.dst)) (tEF e R S m all todo r g (updO e.n f o.dst undef) w))) := by
  (repeat' apply And.intro)
  · intros; rfl
  · intros; rfl
  · intros; rfl
  · intros; rfl
  · intros S m all todo r d t x ty pos aft gd g f w
    unfold stepT stepD
    simp only [pures, Bool.false_eq_true, if_false]
    congr 1; congr 1; congr 1
    unfold gdo tLT tLF LoadsD tL
    cases cnd all f g ⟨d, .load t x, ty, pos, aft, gd⟩ <;> simp
  · intro S m all todo r o g f w h; unfold stepT stepD; rw [if_pos h]
  · intro S m all todo r o g f w h h2; unfold stepT stepD; rw [if_neg (by rw [h]; decide)]
    split
    · rename_i t x ho; rw [ho] at h2; cases h2
    · rfl
theorem vstk :
    (∀ (e : Env) R S m all todo r g f d w v, tL e R S m all todo r g f d w v = vcS e R S m all todo r (updG g d true) (updO e.n f d v) w) ∧
    (∀ (e : Env) R S m all todo r g f d w t x u, tLT e R S m all todo r g f d w t x u = LoadsD e.P t (ev f x) S (tL e R S m all todo r g f d w)) ∧
    (∀ (e : Env) R S m all todo r g f d w t u, tLF e R S m all todo r g f d w t u = exCells (cls e.P 8 t) fun cs => vcS e R S m all todo r (updG g d false) (updO e.n f d (mk1 (aggB e.P t) cs)) w) ∧
    (∀ (e : Env) R S m all todo r g f d v w, tE e R S m all todo r g f d v w = (S w ∧ vcS e R S m all todo r (updG g d true) (updO e.n f d v) w)) ∧
    (∀ (e : Env) R S m all todo r g f w u, tEF e R S m all todo r g f w u = vcS e R S m all todo r g f w) := by
  (repeat' apply And.intro) <;> intros <;> rfl
theorem vsz (e : Env) (R : Ending → World → Prop) (s : St) (f : F) (w : World) : vc e R 0 s f w = Sem e R s f w := rfl
/-- Several ways lead through a statement to what stands behind it: that is shown once. -/
theorem At.join {e : Env} {R : Ending → World → Prop} {x : Item} {todo : List Item} {f : F} {w : World} (φ : F → World → Prop) (rest : ∀ f w, φ f w → At e R todo f w) (first : (∀ f w, φ f w → At e R todo f w) → At e R (x :: todo) f w) : At e R (x :: todo) f w := first rest
/-- A new variable, and what is written into it at once. -/
theorem fresh_copy {P : Program} {t e : TypeId} {w : World} {zc new : List Value} {K : Value → World → Prop} (hi : (P.info? t).map (·.size) = some new.length) (hl : zc.length = new.length) (hone : new.all (·.oneCell') = true) (hK : ∀ w', Row w' w.heap.size e new → Kept w w' → K undef w') :
    exU ((Instr.storeAt t (.pointer (some ⟨w.heap.size, 0, none⟩)) (.agg new.toArray)).run P (w.alloc (.cells zc.toArray e))) K := by
  have hr := Row.new w e zc
  refine exU.of (run_storeAll hi hr rfl hl hone) (hK _ (hr.set new) ?_)
  exact KeptBut.kept ((Kept.refl w).alloc (.cells zc.toArray e)) (setRow_but _ w.heap.size new.toArray) (Nat.le_refl _)
theorem fresh_copy1 {P : Program} {t e : TypeId} {w : World} {z v : Value} {K : Value → World → Prop} (hi : (P.info? t).map (·.size) = some 1) (hone : v.oneCell' = true) (hK : ∀ w', Row w' w.heap.size e [v] → Kept w w' → K undef w') :
    exU ((Instr.storeAt t (.pointer (some ⟨w.heap.size, 0, none⟩)) v).run P (w.alloc (.cells #[z] e))) K := by
  have hr := Row.new w e [z]
  refine exU.of (run_store1 hi hr (by simp) hone) (hK _ (hr.set _) ?_)
  exact KeptBut.kept ((Kept.refl w).alloc (.cells #[z] e)) (setRow_but _ w.heap.size _) (Nat.le_refl _)
end Go.Vc
