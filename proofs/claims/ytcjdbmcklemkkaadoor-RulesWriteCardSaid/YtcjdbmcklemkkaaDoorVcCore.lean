/- The machine's steps as a function on program points: a walk that computes what is left to show of a Go function's body. Nothing of any program stands here. -/
import Derived.WalkKit
import Derived.Scope
import Derived.RangeFuncLeaves
import Derived.RangeFuncCalls
import Derived.TacticsIn
import Derived.Deep.Quiet
namespace Go.Vc
open Go

/-- A frame's slots, as a function. -/
abbrev F := Nat → Value

/-- Slot d is written, if it is one of the frame's n. -/
def upd (n : Nat) (f : F) (d : Nat) (v : Value) : F := fun i => if i = d ∧ d < n then v else f i
def updO (n : Nat) (f : F) (d : Option Nat) (v : Value) : F := match d with | some d => upd n f d v | none => f

/-- An operand's value. -/
def ev (f : F) : Operand → Value
  | .tmp t => f t
  | .const v => v
  | .global g => .pointer (some ⟨g, 0, none⟩)
  | .func k => .func (.func k) #[] #[]

/-- The frame f stands in the temporaries of a. -/
def Fr (n : Nat) (ds : List Deferred) (f : F) (a : Act) : Prop := a.tmps.size = n ∧ (∀ t, a.tmps.getD t undef = f t) ∧ a.defers = ds

theorem Fr.eval {n : Nat} {ds : List Deferred} {f : F} {a : Act} (h : Fr n ds f a) : a.eval = ev f := by
  funext x
  cases x with
  | tmp t => exact h.2.1 t
  | _ => rfl

theorem Fr.put {n : Nat} {ds : List Deferred} {f : F} {a : Act} (h : Fr n ds f a) (d : Option Nat) (v : Value) : Fr n ds (updO n f d v) (a.put d v) := by
  obtain ⟨h1, h2, h3⟩ := h
  cases d with
  | none => exact ⟨h1, h2, h3⟩
  | some d =>
    refine ⟨by simp [Act.put, h1], fun t => ?_, h3⟩
    have h2' := h2 t
    simp only [Act.put, updO, upd, Array.getD_eq_getD_getElem?] at *
    rw [Array.getElem?_setIfInBounds, h1]
    by_cases hd : d = t
    · subst hd
      by_cases hn : d < n
      · simp [hn]
      · simp only [if_true, hn, if_false, and_false, Option.getD_none]
        rw [← h2', Array.getElem?_eq_none (by omega)]; rfl
    · rw [if_neg hd, if_neg (by intro hh; exact hd hh.1.symm)]
      exact h2'

/-- The frame as it is entered. -/
def fr0 (l : List Value) : F := fun t => l.getD t undef

theorem fr0_cons_zero (v : Value) (l : List Value) : fr0 (v :: l) 0 = v := rfl
theorem fr0_cons_succ (v : Value) (l : List Value) (t : Nat) : fr0 (v :: l) (t + 1) = fr0 l t := rfl
theorem fr0_nil (t : Nat) : fr0 [] t = undef := rfl

/-- What a walk is over: the program, the function, how many slots its frame has; is it a round of a range over a function, and of which; what is deferred. -/
structure Env where
  P : Program
  k : FuncId
  n : Nat
  fn : Func
  res : List ResultVar
  round : Option Nat
  ds : List Deferred
def Env.F (e : Env) : Fence := { Fence.wide with round := e.round }
def Env.b (e : Env) : Frame := { (default : Frame) with fn := e.k, kind := .normal, roundOf := e.round }

/-- From here on the call ends as R says; a round: it hands back what R says. -/
def Ends (e : Env) (R : Ending → World → Prop) (a : Act) (todo : List Item) (w : World) : Prop :=
  match e.round with
  | none => ∀ cs, ∃ x w' fr, R x w' ∧ Comes e.P (lone (e.b.atR a todo) cs w) (lone fr cs w') x ∧ fr.fn = e.k ∧ fr.leaving e.P w' x
  | some _ => ∀ c cs, ∃ v w', R (.returned v) w' ∧ Steps e.P (lone (e.b.atR a todo) (c :: cs) w) (lone (c.finish v) cs w')

theorem Ends.of_steps {e : Env} {R : Ending → World → Prop} {a a' : Act} {todo todo' : List Item} {w w' : World} (h : Ends e R a' todo' w')
    (hs : ∀ cs, Steps e.P (lone (e.b.atR a todo) cs w) (lone (e.b.atR a' todo') cs w')) : Ends e R a todo w := by
  unfold Ends at h ⊢
  split
  · rename_i hr
    rw [hr] at h
    intro cs
    obtain ⟨x, w2, fr, hR, hc, r⟩ := h cs
    exact ⟨x, w2, fr, hR, .of_steps (hs cs) hc, r⟩
  · rename_i l hr
    rw [hr] at h
    intro c cs
    obtain ⟨v, w2, hR, hc⟩ := h c cs
    exact ⟨v, w2, hR, (hs (c :: cs)).trans hc⟩

/-- From the program point 'todo', frame f, world w on, the call ends as R says. -/
def At (e : Env) (R : Ending → World → Prop) (todo : List Item) (f : F) (w : World) : Prop :=
  ∀ a, Fr e.n e.ds f a → Ends e R a todo w

section
variable {e : Env} {R : Ending → World → Prop} {todo : List Item} {f : F} {w : World}

theorem At.move {todo' : List Item} {f' : F} {w' : World}
    (h : At e R todo' f' w')
    (hs : ∀ a, Fr e.n e.ds f a → ∃ a', Fr e.n e.ds f' a' ∧ ∀ cs, Steps e.P (lone (e.b.atR a todo) cs w) (lone (e.b.atR a' todo') cs w')) :
    At e R todo f w := by
  intro a ha
  obtain ⟨a', ha', hst⟩ := hs a ha
  exact (h a' ha').of_steps hst

theorem At.to {todo' : List Item} (h : At e R todo' f w)
    (hs : ∀ a cs, Go.step e.P (lone (e.b.atR a todo) cs w) = .next (lone (e.b.atR a todo') cs w)) :
    At e R todo f w :=
  h.move fun a ha => ⟨a, ha, fun cs => .one (hs a cs)⟩

theorem stepR_scope {P : Program} {b : Frame} {a : Act} {k : List Item} {cs : List Frame} {c : Code} : Go.step P (lone (b.atR a (.code (.scope c) :: k)) cs w) = .next (lone (b.atR a (.code c :: .inScope c :: k)) cs w) :=
  step_lone_go (by simp [stepG, stepG.exec, Frame.atR])
theorem stepR_inScope {P : Program} {b : Frame} {a : Act} {k : List Item} {cs : List Frame} {c : Code} : Go.step P (lone (b.atR a (.inScope c :: k)) cs w) = .next (lone (b.atR a k) cs w) :=
  step_lone_go (by simp [stepG, stepG.exec, Frame.atR])

theorem At.seq {x y : Code} (h : At e R (.code x :: .code y :: todo) f w) : At e R (.code (.seq x y) :: todo) f w := h.to fun _ _ => stepR_seq
theorem At.skip (h : At e R todo f w) : At e R (.code .skip :: todo) f w := h.to fun _ _ => stepR_skip
theorem At.label {l : Nat} (h : At e R todo f w) : At e R (.code (.label l) :: todo) f w := h.to fun _ _ => stepR_label
theorem At.block {id : Nat} {c : Code} (h : At e R (.code c :: .inBlock id :: todo) f w) : At e R (.code (.block id c) :: todo) f w := h.to fun _ _ => stepR_block
theorem At.inBlock {id : Nat} (h : At e R todo f w) : At e R (.inBlock id :: todo) f w := h.to fun _ _ => stepR_inBlock
theorem At.scope {c : Code} (h : At e R (.code c :: .inScope c :: todo) f w) : At e R (.code (.scope c) :: todo) f w := h.to fun _ _ => stepR_scope
theorem At.inScope {c : Code} (h : At e R todo f w) : At e R (.inScope c :: todo) f w := h.to fun _ _ => stepR_inScope
theorem At.loop {c : Code} (h : At e R (.code c :: .inLoop c :: todo) f w) : At e R (.code (.loop c) :: todo) f w := h.to fun _ _ => stepR_loop
theorem At.inLoop {c : Code} (h : At e R (.code c :: .inLoop c :: todo) f w) : At e R (.inLoop c :: todo) f w := h.to fun _ _ => stepR_inLoop
theorem At.exit {id : Nat} {k' : List Item} (hk : exitTo id todo = some k') (h : At e R k' f w) : At e R (.code (.exit id) :: todo) f w := h.to fun _ _ => stepR_exit hk
theorem At.cond {c : Operand} {x y : Code} {b : Bool} (hc : ev f c = .bool b) (h : At e R (.code (if b then x else y) :: todo) f w) : At e R (.code (.cond c x y) :: todo) f w := by
  refine h.move fun a ha => ⟨a, ha, fun cs => .one ?_⟩
  exact stepR_cond (by rw [ha.eval]; exact hc)

/-- What a function's results are, in a frame. -/
def resVals (f : F) : List ResultVar → Option (List Value)
  | [] => some []
  | .tmp t :: r => (resVals f r).map (f t :: ·)
  | .cell .. :: _ => none

def tupled : List Value → Value
  | [v] => v
  | vs => .tuple vs.toArray

/-- The results as a run of the model's. -/
def Results (e : Env) (f : F) (w : World) (v : Value) : Prop := ∀ a, Fr e.n e.ds f a → (results e.fn a.tmps).run e.P w = .ok v w

theorem At.finish (hfn : e.P.funcs[e.k]? = some e.fn) (hro : e.round = none) (hds : e.ds = []) {v : Value} (hv : Results e f w v) (hR : R (.returned v) w) (m : List Item) (hm : m = [] ∨ ∃ k, m = .code .ret :: k) : At e R m f w := by
  intro a ha
  have hd : a.defers = [] := ha.2.2.trans hds
  have hb : e.b.roundOf = none := hro
  unfold Ends
  rw [hro]
  intro cs
  rcases hm with rfl | ⟨k, rfl⟩
  · exact ⟨_, w, _, hR, Steps.one (stepR_end hb), rfl, rfl, hd, rfl, e.fn, hfn, hv a ha⟩
  · exact ⟨_, w, _, hR, Steps.one (stepR_ret hb), rfl, rfl, hd, rfl, e.fn, hfn, hv a ha⟩

/-- The mark that a range over a function has left behind. -/
def mark (D : Nat) : Deferred := { target := .collected D, args := #[] }

theorem At.finishM (hfn : e.P.funcs[e.k]? = some e.fn) (hro : e.round = none) {D : Nat} (hds : e.ds = [mark D]) {w' : World} (hD : (Instr.takeDeferred D).run e.P w = .ok [] w') {v : Value} (hv : Results e f w' v) (hR : R (.returned v) w') (m : List Item) (hm : m = [] ∨ ∃ k, m = .code .ret :: k) : At e R m f w := by
  intro a ha
  have hd : a.defers = mark D :: [] := ha.2.2.trans hds
  have hb : e.b.roundOf = none := hro
  unfold Ends
  rw [hro]
  intro cs
  rcases hm with rfl | ⟨k, rfl⟩
  · exact ⟨_, w', _, hR, (Steps.one (stepR_end hb)).trans (Steps.one (step_collected (by simp) hd rfl hD)), rfl, rfl, rfl, rfl, e.fn, hfn, hv a ha⟩
  · exact ⟨_, w', _, hR, (Steps.one (stepR_ret hb)).trans (Steps.one (step_collected (by simp) hd rfl hD)), rfl, rfl, rfl, rfl, e.fn, hfn, hv a ha⟩

/-- A round's end. -/
theorem At.roundEnd {l : Nat} (hro : e.round = some l) {v : Value} {w' : World} (hr : (Instr.endRound l none).run e.P w = .ok v w') (hR : R (.returned v) w') : At e R [] f w := by
  intro a ha
  unfold Ends
  rw [hro]
  exact fun c cs => ⟨v, w', hR, .one (stepR_round_end hro rfl hr)⟩
theorem At.roundRet {l : Nat} (hro : e.round = some l) {v : Value} {w' : World} (hr : (Instr.endRound l (some .ret)).run e.P w = .ok v w') (hR : R (.returned v) w') : At e R (.code .ret :: todo) f w := by
  intro a ha
  unfold Ends
  rw [hro]
  exact fun c cs => ⟨v, w', hR, .one (stepR_round_ret hro rfl hr)⟩
theorem At.roundExit {l id : Nat} (hro : e.round = some l) (hx : exitTo id todo = none) {v : Value} {w' : World} (hr : (Instr.endRound l (some (.exit id))).run e.P w = .ok v w') (hR : R (.returned v) w') : At e R (.code (.exit id) :: todo) f w := by
  intro a ha
  unfold Ends
  rw [hro]
  exact fun c cs => ⟨v, w', hR, .one (stepR_round_exit hro rfl hx hr)⟩
theorem At.beginRound {l : Nat} (hro : e.round = some l) {w' : World} (hr : (Instr.beginRound l).run e.P w = .ok () w') (h : At e R todo f w') : At e R (.beginRound :: todo) f w :=
  h.move fun a ha => ⟨a, ha, fun cs => .one (stepR_beginRound hro hr)⟩

/-- Out of the kit's 'wpIn' of a piece of code that is left by its end alone. -/
theorem At.of_wpIn {c : Code} (h : ∀ a, Fr e.n e.ds f a → c.wpIn e.F 0 e.P (fun x a' w' => x = .normal ∧ ∃ f', Fr e.n e.ds f' a' ∧ At e R todo f' w') a w) : At e R (.code c :: todo) f w := by
  intro a ha
  have key : ∀ cs, ∃ a' w', (∃ f', Fr e.n e.ds f' a' ∧ At e R todo f' w') ∧ Steps e.P (lone (e.b.atR a (.code c :: todo)) cs w) (lone (e.b.atR a' todo) cs w') := by
    intro cs
    obtain ⟨x, a', w', ⟨rfl, h2⟩, harr⟩ := h a ha e.b todo cs rfl trivial (fun _ hd => by cases hd)
    exact ⟨a', w', h2, StepsIn.steps harr⟩
  unfold Ends
  split
  · rename_i hr
    intro cs
    obtain ⟨a', w', ⟨f', hf', hat⟩, hst⟩ := key cs
    have := hat a' hf'
    unfold Ends at this
    rw [hr] at this
    obtain ⟨y, w2, fr, hR, hc, r⟩ := this cs
    exact ⟨y, w2, fr, hR, .of_steps hst hc, r⟩
  · rename_i l hr
    intro c2 cs
    obtain ⟨a', w', ⟨f', hf', hat⟩, hst⟩ := key (c2 :: cs)
    have := hat a' hf'
    unfold Ends at this
    rw [hr] at this
    obtain ⟨v, w2, hR, hc⟩ := this c2 cs
    exact ⟨v, w2, hR, hst.trans hc⟩
/-- .. and of its 'wp', where this is no round. -/
theorem At.of_wp (hro : e.round = none) {c : Code} (h : ∀ a, Fr e.n e.ds f a → c.wp e.P (fun x a' w' => x = .normal ∧ ∃ f', Fr e.n e.ds f' a' ∧ At e R todo f' w') a w) : At e R (.code c :: todo) f w :=
  At.of_wpIn fun a ha => by
    have : e.F = Fence.wide := by unfold Env.F; rw [hro]; rfl
    rw [this]; exact wpIn_wide.2 (h a ha)

/-- A loop, by an invariant that names what is left to do. -/
theorem At.ind {α : Sort _} (I : Nat → α → F → World → Prop) {m : Nat} {x : α} (h0 : I m x f w)
    (round : ∀ m, (∀ m' x' f' w', m' < m → I m' x' f' w' → At e R todo f' w') → ∀ x f w, I m x f w → At e R todo f w) : At e R todo f w := by
  have key : ∀ m, ∀ m' x' f' w', m' < m → I m' x' f' w' → At e R todo f' w' := by
    intro m
    induction m with
    | zero => intro m' x' f' w' h; exact absurd h (Nat.not_lt_zero _)
    | succ m ih =>
      intro m' x' f' w' hm hI
      exact round m' (fun m2 x2 f2 w2 h2 => ih m2 x2 f2 w2 (by omega)) x' f' w' hI
  exact key (m + 1) m x f w (Nat.lt_succ_self _) h0

end

/-- A call is the walk of its body. -/
theorem calls_of_at {e : Env} {R : Ending → World → Prop} {args : Array Value} {c : Code} {w : World} (hfn : e.P.funcs[e.k]? = some e.fn) (hn : e.fn.ntmps = e.n) (ha : args.size ≤ e.n) (hb : e.fn.body = some c)
    (h : At e R [.code c] (fr0 args.toList) w) (hro : e.round = none := by rfl) (hds : e.ds = [] := by rfl) : Calls e.P e.k args w R := by
  intro cs
  have hen : Frame.enter e.P e.k args .normal = e.b.atR ⟨args ++ Array.replicate (e.fn.ntmps - args.size) undef, []⟩ [.code c] := by
    simp [Frame.enter, Frame.atR, Env.b, hfn, hb, hro]
  rw [hen]
  have h2 := h ⟨args ++ Array.replicate (e.fn.ntmps - args.size) undef, []⟩ ⟨by simp [hn]; omega, fun t => ?_, hds.symm⟩
  · unfold Ends at h2
    rw [hro] at h2
    exact h2 cs
  simp only [fr0, Array.getD_eq_getD_getElem?, List.getD_eq_getElem?_getD, Array.getElem?_append, Array.getElem?_toList]
  split
  · rfl
  · rename_i h1
    rw [Array.getElem?_eq_none (xs := args) (by omega), Array.getElem?_replicate]
    split <;> rfl

end Go.Vc
