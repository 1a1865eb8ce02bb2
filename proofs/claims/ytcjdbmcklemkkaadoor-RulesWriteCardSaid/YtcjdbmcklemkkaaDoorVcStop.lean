/- The walk that stops: at each load, call or other operation that turns memory, and at each undecided condition, what is left waits behind a name until the value is known. Nothing of any program stands here. -/
import Derived.Test.YtcjdbmcklemkkaaDoorVcRange
namespace Go.Vc
open Go
set_option linter.unusedSimpArgs false
set_option linter.unusedVariables false

/-- What is left, waiting for a value. -/
def kW (K : Value → World → Prop) (w : World) (v : Value) : Prop := K v w
def kC (P : Program) (ty : TypeId) (K : Value → World → Prop) (x : Ending) (w : World) : Prop := exShp (shp P ty) fun v => x = .returned v ∧ K v w
def kT (A : Prop) (_ : Unit) : Prop := A
def vcT (e : Env) (R : Ending → World → Prop) (m : Nat) (todo : List Item) (f : F) (w : World) (_ : Unit) : Prop := vc e R m (.code todo) f w
def vcU (e : Env) (R : Ending → World → Prop) (m : Nat) (all rest : List Oper) (todo : List Item) (g : Nat → Bool) (f : F) (w : World) (_ : Unit) : Prop := vc e R m (.opsG all rest todo g) f w
def vcO (e : Env) (R : Ending → World → Prop) (m : Nat) (all rest : List Oper) (todo : List Item) (f : F) (d : Option Nat) (v : Value) (w : World) : Prop := vc e R m (.ops all rest todo) (updO e.n f d v) w
def vcG (e : Env) (R : Ending → World → Prop) (m : Nat) (all rest : List Oper) (todo : List Item) (g : Nat → Bool) (f : F) (d : Option Nat) (v : Value) (w : World) : Prop := vc e R m (.opsG all rest todo (updG g d true)) (updO e.n f d v) w
def effT (e : Env) (o : Oper) (g : Nat → Bool) (f : F) (w : World) (K : Value → World → Prop) (_ : Unit) : Prop := readsOk g true o.op.operands.toList ∧ eff e o (ev f) w K
def gdo (c : Bool) (A B : Unit → Prop) : Prop := if c = true then A () else B ()
/-- A model's run that hands back a value. -/
def exR (s : Shp) (r : Result Value) (K : Value → World → Prop) : Prop := exShp s fun v => ∃ w', r = .ok v w' ∧ K v w'
def exU (r : Result Unit) (K : Value → World → Prop) : Prop := ∃ w', r = .ok () w' ∧ K undef w'
def exN (r : Result Value) (K : Value → World → Prop) : Prop := ∃ v w', r = .ok v w' ∧ K v w'
def finK (e : Env) (R : Ending → World → Prop) (f : F) (w : World) (r : List ResultVar) (acc : List Value) (v : Value) : Prop := fin e R f w r (v :: acc)

/-- The rules of the walk that stops. (To be used ahead: '↓vss'.) -/
theorem vss :
    (∀ (e : Env), ∀ (R : Ending → World → Prop), ∀ (m : Nat), ∀ (f : F), ∀ (w : World), vc e R (m + 1) (.code []) f w = endO e R none f w) ∧
    (∀ (e : Env), ∀ (R : Ending → World → Prop), ∀ (m : Nat), ∀ (f : F), ∀ (w : World), ∀ (todo : List Item), ∀ i, vc e R (m + 1) (.code (.inBlock i :: todo)) f w = vc e R m (.code todo) f w) ∧
    (∀ (e : Env), ∀ (R : Ending → World → Prop), ∀ (m : Nat), ∀ (f : F), ∀ (w : World), ∀ (todo : List Item), ∀ c, vc e R (m + 1) (.code (.inScope c :: todo)) f w = vc e R m (.code todo) f w) ∧
    (∀ (e : Env), ∀ (R : Ending → World → Prop), ∀ (m : Nat), ∀ (f : F), ∀ (w : World), ∀ (todo : List Item), ∀ c, vc e R (m + 1) (.code (.code (.scope c) :: todo)) f w = vc e R m (.code (.code c :: .inScope c :: todo)) f w) ∧
    (∀ (e : Env), ∀ (R : Ending → World → Prop), ∀ (m : Nat), ∀ (f : F), ∀ (w : World), ∀ (todo : List Item), vc e R (m + 1) (.code (.beginRound :: todo)) f w = Sem e R (.code (.beginRound :: todo)) f w) ∧
    (∀ (e : Env), ∀ (R : Ending → World → Prop), ∀ (m : Nat), ∀ (f : F), ∀ (w : World), ∀ (todo : List Item), ∀ g ps as bd, vc e R (m + 1) (.code (.code (.rangeFunc g ps as bd) :: todo)) f w = Sem e R (.code (.code (.rangeFunc g ps as bd) :: todo)) f w) ∧
    (∀ (e : Env), ∀ (R : Ending → World → Prop), ∀ (m : Nat), ∀ (f : F), ∀ (w : World), ∀ (todo : List Item), ∀ c, vc e R (m + 1) (.code (.inLoop c :: todo)) f w = Sem e R (.code (.code c :: .inLoop c :: todo)) f w) ∧
    (∀ (e : Env), ∀ (R : Ending → World → Prop), ∀ (m : Nat), ∀ (f : F), ∀ (w : World), ∀ (todo : List Item), vc e R (m + 1) (.code (.code .skip :: todo)) f w = vc e R m (.code todo) f w) ∧
    (∀ (e : Env), ∀ (R : Ending → World → Prop), ∀ (m : Nat), ∀ (f : F), ∀ (w : World), ∀ (todo : List Item), ∀ l, vc e R (m + 1) (.code (.code (.label l) :: todo)) f w = vc e R m (.code todo) f w) ∧
    (∀ (e : Env), ∀ (R : Ending → World → Prop), ∀ (m : Nat), ∀ (f : F), ∀ (w : World), ∀ (todo : List Item), ∀ a b, vc e R (m + 1) (.code (.code (.seq a b) :: todo)) f w = vc e R m (.code (.code a :: .code b :: todo)) f w) ∧
    (∀ (e : Env), ∀ (R : Ending → World → Prop), ∀ (m : Nat), ∀ (f : F), ∀ (w : World), ∀ (todo : List Item), ∀ i c, vc e R (m + 1) (.code (.code (.block i c) :: todo)) f w = vc e R m (.code (.code c :: .inBlock i :: todo)) f w) ∧
    (∀ (e : Env), ∀ (R : Ending → World → Prop), ∀ (m : Nat), ∀ (f : F), ∀ (w : World), ∀ (todo : List Item), ∀ c, vc e R (m + 1) (.code (.code (.loop c) :: todo)) f w = Sem e R (.code (.code c :: .inLoop c :: todo)) f w) ∧
    (∀ (e : Env), ∀ (R : Ending → World → Prop), ∀ (m : Nat), ∀ (f : F), ∀ (w : World), ∀ (todo : List Item), ∀ i l, vc e R (m + 1) (.code (.code (.region i (List.toArray l) false) :: todo)) f w = vc e R m (.ops l l todo) f w) ∧
    (∀ (e : Env), ∀ (R : Ending → World → Prop), ∀ (m : Nat), ∀ (f : F), ∀ (w : World), ∀ (todo : List Item), ∀ i l, vc e R (m + 1) (.code (.code (.region i l true) :: todo)) f w = Sem e R (.code (.code (.region i l true) :: todo)) f w) ∧
    (∀ (e : Env), ∀ (R : Ending → World → Prop), ∀ (m : Nat), ∀ (f : F), ∀ (w : World), ∀ (todo : List Item), ∀ x a b, vc e R (m + 1) (.code (.code (.cond x a b) :: todo)) f w = (isB (ev f x) ∧ gdo (toB (ev f x)) (vcT e R m (.code a :: todo) f w) (vcT e R m (.code b :: todo) f w))) ∧
    (∀ (e : Env), ∀ (R : Ending → World → Prop), ∀ (m : Nat), ∀ (f : F), ∀ (w : World), ∀ (todo : List Item), ∀ i, vc e R (m + 1) (.code (.code (.exit i) :: todo)) f w = vcX (fun k => vc e R m (.code k) f w) (endX e R i f w) i todo) ∧
    (∀ (e : Env), ∀ (R : Ending → World → Prop), ∀ (m : Nat), ∀ (f : F), ∀ (w : World), ∀ (todo : List Item), vc e R (m + 1) (.code (.code .ret :: todo)) f w = endO e R (some .ret) f w) ∧
    (∀ (e : Env), ∀ (R : Ending → World → Prop), ∀ (m : Nat), ∀ (f : F), ∀ (w : World), ∀ (todo : List Item), ∀ (all : List Oper), vc e R (m + 1) (.ops all [] todo) f w = vc e R m (.code todo) f w) ∧
    (∀ (e : Env), ∀ (R : Ending → World → Prop), ∀ (m : Nat), ∀ (f : F), ∀ (w : World), ∀ (todo : List Item), ∀ (all : List Oper), ∀ (rest : List Oper), ∀ d op ty pos aft gd, vc e R (m + 1) (.ops all (⟨d, op, ty, pos, aft, some gd⟩ :: rest) todo) f w = vc e R m (.opsG all (⟨d, op, ty, pos, aft, some gd⟩ :: rest) todo gT) f w) ∧
    (∀ (e : Env), ∀ (R : Ending → World → Prop), ∀ (m : Nat), ∀ (f : F), ∀ (w : World), ∀ (todo : List Item), ∀ (all : List Oper), ∀ (rest : List Oper), ∀ d op ty pos aft, vc e R (m + 1) (.ops all (⟨d, op, ty, pos, aft, none⟩ :: rest) todo) f w =
      (if isPure e.P op = true then okOf e.P (ev f) op ∧ vc e R m (.ops all rest todo) (updO e.n f d (valOf e.P (ev f) op)) w
       else eff e ⟨d, op, ty, pos, aft, none⟩ (ev f) w (vcO e R m all rest todo f d))) ∧
    (∀ (e : Env), ∀ (R : Ending → World → Prop), ∀ (m : Nat), ∀ (f : F), ∀ (w : World), ∀ (todo : List Item), ∀ (all : List Oper), ∀ (g : Nat → Bool), vc e R (m + 1) (.opsG all [] todo g) f w = vc e R m (.code todo) (real g f) w) ∧
    (∀ (e : Env), ∀ (R : Ending → World → Prop), ∀ (m : Nat), ∀ (f : F), ∀ (w : World), ∀ (todo : List Item), ∀ (all : List Oper), ∀ (rest : List Oper), ∀ (o : Oper), ∀ (g : Nat → Bool), vc e R (m + 1) (.opsG all (o :: rest) todo g) f w =
      (if isPure e.P o.op = true then dstOk e.n o.dst ∧ (cnd all f g o = true → okOf e.P (ev f) o.op) ∧ readsFor f g (cnd all f g o) o.op ∧ vc e R m (.opsG all rest todo (updG g o.dst (cnd all f g o))) (updO e.n f o.dst (valOf e.P (ev f) o.op)) w
       else dstOk e.n o.dst ∧ gdo (cnd all f g o) (effT e o g f w (vcG e R m all rest todo g f o.dst)) (vcU e R m all rest todo g (updO e.n f o.dst undef) w))) := by
  (repeat' apply And.intro) <;> intros <;> first | rfl | (simp only [vc, Option.isSome_none, Bool.false_eq_true, if_false]; rfl) | (simp only [vc, gdo, vcT, vcU, vcG, effT]; rfl) | (simp only [vc, gdo, vcT, vcU, effT]; first | done | (split <;> rfl))

/-- What waits, with its value. -/
theorem vsk :
    (∀ (K : Value → World → Prop) w v, kW K w v = K v w) ∧
    (∀ (A B : Unit → Prop), gdo true A B = A ()) ∧
    (∀ (A B : Unit → Prop), gdo false A B = B ()) ∧
    (∀ (A : Prop) u, kT A u = A) ∧
    (∀ e R m todo f w u, vcT e R m todo f w u = vc e R m (.code todo) f w) ∧
    (∀ e R m all rest todo g f w u, vcU e R m all rest todo g f w u = vc e R m (.opsG all rest todo g) f w) ∧
    (∀ e R m all rest todo f d v w, vcO e R m all rest todo f d v w = vc e R m (.ops all rest todo) (updO e.n f d v) w) ∧
    (∀ e R m all rest todo g f d v w, vcG e R m all rest todo g f d v w = vc e R m (.opsG all rest todo (updG g d true)) (updO e.n f d v) w) ∧
    (∀ e o g f w K u, effT e o g f w K u = (readsOk g true o.op.operands.toList ∧ eff e o (ev f) w K)) ∧
    (∀ e R f w r acc v, finK e R f w r acc v = fin e R f w r (v :: acc)) := by
  (repeat' apply And.intro) <;> intros <;> rfl

/-- The way to a block's end; the call's end; what turns memory. -/
theorem vss2 :
    (∀ (KX : List Item → Prop) Z, ∀ id id' k, vcX KX Z id (.inBlock id' :: k) = if id' = id then KX k else vcX KX Z id k) ∧
    (∀ (KX : List Item → Prop) Z, ∀ id c k, vcX KX Z id (.code c :: k) = vcX KX Z id k) ∧
    (∀ (KX : List Item → Prop) Z, ∀ id c k, vcX KX Z id (.inLoop c :: k) = vcX KX Z id k) ∧
    (∀ (KX : List Item → Prop) Z, ∀ id c k, vcX KX Z id (.inScope c :: k) = vcX KX Z id k) ∧
    (∀ (KX : List Item → Prop) Z, ∀ id, vcX KX Z id [] = Z) ∧
    (∀ P k n fn res (R : Ending → World → Prop) j (f : F) (w : World), endO ⟨P, k, n, fn, res, none, []⟩ R j f w = fin ⟨P, k, n, fn, res, none, []⟩ R f w res []) ∧
    (∀ P k n fn res D (R : Ending → World → Prop) j (f : F) (w : World), endO ⟨P, k, n, fn, res, none, [mark D]⟩ R j f w = ∃ D' w', mark D = mark D' ∧ (Instr.takeDeferred D').run P w = .ok [] w' ∧ fin ⟨P, k, n, fn, res, none, [mark D]⟩ R f w' res []) ∧
    (∀ P k n fn res l ds (R : Ending → World → Prop) j (f : F) (w : World), endO ⟨P, k, n, fn, res, some l, ds⟩ R j f w = ∃ v w', (Instr.endRound l j).run P w = .ok v w' ∧ R (.returned v) w') ∧
    (∀ P k n fn res l ds (R : Ending → World → Prop) j (f : F) (w : World), endX ⟨P, k, n, fn, res, some l, ds⟩ R j f w = ∃ v w', (Instr.endRound l (some (.exit j))).run P w = .ok v w' ∧ R (.returned v) w') ∧
    (∀ (e : Env), ∀ (R : Ending → World → Prop), ∀ (f : F), ∀ (w : World), ∀ acc, fin e R f w [] acc = R (.returned (tupled acc.reverse)) w) ∧
    (∀ (e : Env), ∀ (R : Ending → World → Prop), ∀ (f : F), ∀ (w : World), ∀ t r acc, fin e R f w (.tmp t :: r) acc = fin e R f w r (f t :: acc)) ∧
    (∀ (e : Env), ∀ (R : Ending → World → Prop), ∀ (f : F), ∀ (w : World), ∀ a t r acc, fin e R f w (.cell a t :: r) acc = (ldOk e.P t = true ∧ Loads e.P t (f a) w (finK e R f w r acc))) ∧
    (∀ (e : Env), ∀ (w : World), ∀ (K : Value → World → Prop), ∀ (ρ : Operand → Value), ∀ d t a ty pos aft gd, eff e ⟨d, .load t a, ty, pos, aft, gd⟩ ρ w K = (ldOk e.P t = true ∧ Loads e.P t (ρ a) w (kW K w))) ∧
    (∀ (e : Env), ∀ (w : World), ∀ (K : Value → World → Prop), ∀ (ρ : Operand → Value), ∀ d t ty pos aft gd, eff e ⟨d, .alloc t, ty, pos, aft, gd⟩ ρ w K = (zOk e.P t = true ∧ K (.pointer (some ⟨w.heap.size, 0, none⟩)) (w.alloc (.cells (zcs e.P t) t)))) ∧
    (∀ (e : Env), ∀ (w : World), ∀ (K : Value → World → Prop), ∀ (ρ : Operand → Value), ∀ d t x ty pos aft gd, eff e ⟨d, .box t x, ty, pos, aft, gd⟩ ρ w K = K (.pointer (some ⟨w.heap.size, 0, none⟩)) (w.alloc (.cells (ρ x).cells t))) ∧
    (∀ (e : Env), ∀ (w : World), ∀ (K : Value → World → Prop), ∀ (ρ : Operand → Value), ∀ d t a x ty pos aft gd, eff e ⟨d, .store t a x, ty, pos, aft, gd⟩ ρ w K = exU ((Instr.storeAt t (ρ a) (ρ x)).run e.P w) K) ∧
    (∀ (e : Env), ∀ (w : World), ∀ (K : Value → World → Prop), ∀ (ρ : Operand → Value), ∀ d fx xs ts ty pos aft gd, eff e ⟨d, .call ⟨.value fx, xs, ts⟩, ty, pos, aft, gd⟩ ρ w K = callE e.P (ρ fx) (xs.map ρ) w (kC e.P ty K)) ∧
    (∀ (e : Env), ∀ (w : World), ∀ (K : Value → World → Prop), ∀ (ρ : Operand → Value), ∀ d t len ps ty pos aft gd, eff e ⟨d, .buildSlice t len ps, ty, pos, aft, gd⟩ ρ w K = (isSlc e.P t = true ∧ zOk e.P (e.P.elem t) = true ∧ len * esz e.P t ≤ 2 ^ 24 ∧ fullOk e.P t len 0 (ps.toList.map fun p => (p.1, ρ p.2)) ∧
      K (Sl.v ⟨some ⟨w.heap.size, 0, none⟩, len, len⟩) (w.alloc (.cells (flatV (ps.toList.map fun p => (p.1, ρ p.2))).toArray (e.P.elem t))))) ∧
    (∀ (e : Env), ∀ (w : World), ∀ (K : Value → World → Prop), ∀ (ρ : Operand → Value), ∀ d xs ts ty pos aft gd, eff e ⟨d, .call ⟨.builtin .append, xs, ts⟩, ty, pos, aft, gd⟩ ρ w K = exR (shp e.P ty) ((Builtin.append_ ts ty (xs.map ρ)).run e.P w) K) ∧
    (∀ (e : Env), ∀ (w : World), ∀ (K : Value → World → Prop), ∀ (ρ : Operand → Value), ∀ d xs ts ty pos aft gd, eff e ⟨d, .call ⟨.builtin .copy, xs, ts⟩, ty, pos, aft, gd⟩ ρ w K = exR (shp e.P ty) ((Builtin.copy_ ts ty (xs.map ρ)).run e.P w) K) ∧
    (∀ (e : Env), ∀ (w : World), ∀ (K : Value → World → Prop), ∀ (ρ : Operand → Value), ∀ d xs ts ty pos aft gd, eff e ⟨d, .call ⟨.builtin .max, xs, ts⟩, ty, pos, aft, gd⟩ ρ w K = exR (shp e.P ty) ((Builtin.max_ ts ty (xs.map ρ)).run e.P w) K) ∧
    (∀ (e : Env), ∀ (w : World), ∀ (K : Value → World → Prop), ∀ (ρ : Operand → Value), ∀ d xs ts ty pos aft gd, eff e ⟨d, .call ⟨.builtin .min, xs, ts⟩, ty, pos, aft, gd⟩ ρ w K = exR (shp e.P ty) ((Builtin.min_ ts ty (xs.map ρ)).run e.P w) K) ∧
    (∀ (e : Env), ∀ (w : World), ∀ (K : Value → World → Prop), ∀ (ρ : Operand → Value), ∀ d a b x ty pos aft gd, eff e ⟨d, .convert a b x, ty, pos, aft, gd⟩ ρ w K = exR (shp e.P ty) ((convert a b (ρ x)).run e.P w) K) ∧
    (∀ (e : Env), ∀ (w : World), ∀ (K : Value → World → Prop), ∀ (ρ : Operand → Value), ∀ d t r ty pos aft gd, eff e ⟨d, .makeMap t r, ty, pos, aft, gd⟩ ρ w K = exR (shp e.P ty) ((Instr.makeMap t (r.map ρ)).run e.P w) K) ∧
    (∀ (e : Env), ∀ (w : World), ∀ (K : Value → World → Prop), ∀ (ρ : Operand → Value), ∀ d t a b ty pos aft gd, eff e ⟨d, .makeSlice t a b, ty, pos, aft, gd⟩ ρ w K = exR (shp e.P ty) ((Instr.makeSlice t (ρ a) (ρ b)).run e.P w) K) ∧
    (∀ (e : Env), ∀ (w : World), ∀ (K : Value → World → Prop), ∀ (ρ : Operand → Value), ∀ d t a b c ty pos aft gd, eff e ⟨d, .lookup t a b c, ty, pos, aft, gd⟩ ρ w K = exR (shp e.P ty) ((Instr.lookup t (ρ a) (ρ b) c).run e.P w) K) ∧
    (∀ (e : Env), ∀ (w : World), ∀ (K : Value → World → Prop), ∀ (ρ : Operand → Value), ∀ d t m k x ty pos aft gd, eff e ⟨d, .mapUpdate t m k x, ty, pos, aft, gd⟩ ρ w K = exU ((Instr.mapUpdate t (ρ m) (ρ k) (ρ x)).run e.P w) K) ∧
    (∀ (e : Env), ∀ (w : World), ∀ (K : Value → World → Prop), ∀ (ρ : Operand → Value), ∀ d t m k x ty pos aft gd, eff e ⟨d, .insert t m k x, ty, pos, aft, gd⟩ ρ w K = exU ((Instr.mapUpdate t (ρ m) (ρ k) (ρ x)).run e.P w) K) ∧
    (∀ (e : Env), ∀ (w : World), ∀ (K : Value → World → Prop), ∀ (ρ : Operand → Value), ∀ d t x ty pos aft gd, eff e ⟨d, .range t x, ty, pos, aft, gd⟩ ρ w K = exN ((Instr.range t (ρ x)).run e.P w) K) ∧
    (∀ (e : Env), ∀ (w : World), ∀ (K : Value → World → Prop), ∀ (ρ : Operand → Value), ∀ d x s ty pos aft gd, eff e ⟨d, .next x s, ty, pos, aft, gd⟩ ρ w K = exN ((Instr.next (ρ x) s ty).run e.P w) K) ∧
    (∀ (e : Env), ∀ (w : World), ∀ (K : Value → World → Prop), ∀ (ρ : Operand → Value), ∀ d t x ty pos aft gd, eff e ⟨d, .makeInterface t x, ty, pos, aft, gd⟩ ρ w K = exR (shp e.P ty) ((Instr.makeInterface t (ρ x)).run e.P w) K) := by
  (repeat' apply And.intro)
  all_goals intros
  all_goals first | rfl | (simp only [vcs2, exR, exU, exN, kC, kW, finK, loads]; first | done | rfl)

/-! ### loads -/
/-- A value of this kind. -/
def fit1 : Cl → Value → Bool
  | .int k, .int k' _ => k == k'
  | .bool, .bool _ => true
  | .str, .string _ => true
  | .slice, .slice _ _ _ => true
  | .ptr, .pointer _ => true
  | .map, .map _ => true
  | .any, _ => true
  | _, _ => false
def fits : List Cl → List Value → Bool
  | [], [] => true
  | c :: cs, v :: vs => fit1 c v && fits cs vs
  | _, _ => false
theorem exCells_in : ∀ (cl : List Cl) (cs : List Value) (K : List Value → Prop), fits cl cs = true → K cs → exCells cl K
  | [], [], _, _, h => h
  | c :: cl, v :: cs, K, hf, h => by
    simp only [fits, Bool.and_eq_true] at hf
    have ih := exCells_in cl cs (fun l => K (v :: l)) hf.2 h
    cases c <;> cases v <;> simp only [fit1, Bool.false_eq_true, beq_iff_eq, false_and] at hf
    all_goals first
      | (obtain ⟨rfl, _⟩ := hf; exact ⟨_, ih⟩)
      | exact ⟨_, ih⟩
      | (rename_i a b c; exact ⟨⟨a, b, c⟩, ih⟩)
theorem fits_len : ∀ {cl : List Cl} {cs : List Value}, fits cl cs = true → cs.length = cl.length
  | [], [], _ => rfl
  | _ :: cl, _ :: cs, h => by simp only [fits, Bool.and_eq_true] at h; simp [fits_len h.2]
theorem rowAt_inj {w : World} {a : Addr} : ∀ {cs cs' : List Value}, rowAt w a cs → rowAt w a cs' → cs.length = cs'.length → cs = cs' := by
  intro cs cs' h h' hl
  apply List.ext_getElem? 
  intro i
  by_cases hi : i < cs.length
  · have h1 := h i cs[i] (List.getElem?_eq_getElem hi)
    have h2 := h' i cs'[i] (List.getElem?_eq_getElem (by omega))
    rw [h1] at h2
    rw [List.getElem?_eq_getElem hi, List.getElem?_eq_getElem (by omega)]
    exact h2
  · rw [List.getElem?_eq_none (by omega), List.getElem?_eq_none (by omega)]
/-- A load, of what stands there. -/
theorem Loads.eq {P : Program} {t : TypeId} {w : World} {a : Addr} {cs : List Value} (hf : fits (cls P 8 t) cs = true) (hr : rowAt w a cs) (K : Value → Prop) : Loads P t (.pointer (some a)) w K = K (mk1 (aggB P t) cs) := by
  apply propext
  constructor
  · intro h
    obtain ⟨cs', hl, ⟨a', ha, hr'⟩, hk⟩ := exCells_out _ _ h
    simp only [Value.pointer.injEq, Option.some.injEq] at ha
    subst ha
    rw [rowAt_inj hr hr' (by rw [hl, fits_len hf])]; exact hk
  · intro h
    exact exCells_in _ _ _ hf ⟨⟨a, rfl, hr⟩, h⟩
/-- .. of one value. -/
theorem Loads.one {P : Program} {t : TypeId} {w : World} {a : Addr} {v : Value} (hf : fits (cls P 8 t) [v] = true) (hg : aggB P t = false) (hr : rowAt w a [v]) (K : Value → Prop) : Loads P t (.pointer (some a)) w K = K v := by
  rw [Loads.eq hf hr, hg]; rfl
theorem Row.ld {P : Program} {t e : TypeId} {w : World} {b : Nat} {cs : List Value} (h : Row w b e cs) (i : Nat) {v : Value} (hv : cs[i]? = some v) (hf : fits (cls P 8 t) [v] = true) (hg : aggB P t = false) (K : Value → Prop) : Loads P t (.pointer (some ⟨b, i, none⟩)) w K = K v :=
  Loads.one hf hg (h.at_ hv) K
theorem Row.ldAll {P : Program} {t e : TypeId} {w : World} {b : Nat} {cs : List Value} (h : Row w b e cs) (hf : fits (cls P 8 t) cs = true) (K : Value → Prop) : Loads P t (.pointer (some ⟨b, 0, none⟩)) w K = K (mk1 (aggB P t) cs) := Loads.eq hf h.all K
/-- A store, a call, a run: by what is known of it. -/
theorem exU.eq {r : Result Unit} {w' : World} (h : r = .ok () w') (K : Value → World → Prop) : exU r K = K undef w' := by
  subst h; apply propext; constructor
  · rintro ⟨w2, h, hk⟩; cases h; exact hk
  · intro h; exact ⟨_, rfl, h⟩
theorem exU.of {r : Result Unit} {w' : World} {K : Value → World → Prop} (h : r = .ok () w') (hk : K undef w') : exU r K := ⟨_, h, hk⟩
theorem exN.of {r : Result Value} {v : Value} {w' : World} {K : Value → World → Prop} (h : r = .ok v w') (hk : K v w') : exN r K := ⟨_, _, h, hk⟩
/-- A value of one cell, of a shape of one. -/
theorem exShp_one {c : Cl} {v : Value} {K : Value → Prop} (hf : fit1 c v = true) (h : K v) : exShp (.one false [c]) K := exCells_in [c] [v] _ (by simp [fits, hf]) h
theorem exR.of {c : Cl} {r : Result Value} {v : Value} {w' : World} {K : Value → World → Prop} (hf : fit1 c v = true) (h : r = .ok v w') (hk : K v w') : exR (.one false [c]) r K := exShp_one hf ⟨w', h, hk⟩
/-- One value, whichever the shape of its cells. -/
def fitV (agg : Bool) (cs : List Cl) : Value → Bool
  | .agg vs => agg && fits cs vs.toList
  | v => !agg && fits cs [v]
theorem exVal_in {b : Bool} {cs : List Cl} {v : Value} {K : Value → Prop} (hf : fitV b cs v = true) (h : K v) : exVal b cs K := by
  cases v with
  | agg vs =>
    simp only [fitV, Bool.and_eq_true] at hf
    obtain ⟨rfl, hf⟩ := hf
    exact exCells_in cs vs.toList _ hf (by simpa [mk1] using h)
  | _ =>
    simp only [fitV, Bool.and_eq_true, Bool.not_eq_true'] at hf
    obtain ⟨rfl, hf⟩ := hf
    exact exCells_in cs [_] _ hf (by simpa [mk1] using h)
def fitT : List (Bool × List Cl) → List Value → Bool
  | [], [] => true
  | (b, cs) :: r, v :: vs => fitV b cs v && fitT r vs
  | _, _ => false
theorem exTup_in : ∀ (l : List (Bool × List Cl)) (vs : List Value) (K : List Value → Prop), fitT l vs = true → K vs → exTup l K
  | [], [], _, _, h => h
  | (b, cs) :: l, v :: vs, K, hf, h => by
    simp only [fitT, Bool.and_eq_true] at hf
    exact exVal_in hf.1 (exTup_in l vs _ hf.2 h)
def fitS : Shp → Value → Bool
  | .one b cs, v => fitV b cs v
  | .tup l, .tuple vs => fitT l vs.toList
  | _, _ => false
theorem exShp_in {s : Shp} {v : Value} {K : Value → Prop} (hf : fitS s v = true) (h : K v) : exShp s K := by
  cases s with
  | one b cs => exact exVal_in hf h
  | tup l =>
    cases v <;> simp only [fitS, Bool.false_eq_true] at hf
    rename_i vs
    exact exTup_in l vs.toList _ hf h
theorem exR.in_ {s : Shp} {r : Result Value} {v : Value} {w' : World} {K : Value → World → Prop} (hf : fitS s v = true) (h : r = .ok v w') (hk : K v w') : exR s r K := exShp_in hf ⟨w', h, hk⟩
/-- A call's answer. -/
theorem kC.in_ {P : Program} {ty : TypeId} {v : Value} {w' : World} {K : Value → World → Prop} (hf : fitS (shp P ty) v = true) (hk : K v w') : kC P ty K (.returned v) w' := exShp_in hf ⟨rfl, hk⟩
theorem callE.fn {P : Program} {k : FuncId} {args first captured : Array Value} {w : World} {R R' : Ending → World → Prop} (hb : hasBody P k = true) (hc : Calls P k (first ++ args ++ captured) w R) (h : ∀ x w', R x w' → R' x w') : callE P (.func (.func k) first captured) args w R' := ⟨hb, hc.mono h⟩

/-! ### regions that draw their order, stopping -/
def LoadsD (P : Program) (t : TypeId) (p : Value) (S : World → Prop) (K : Value → Prop) : Prop := exCells (cls P 8 t) fun cs => (∃ a, p = .pointer (some a) ∧ ∀ w', S w' → rowAt w' a cs) ∧ K (mk1 (aggB P t) cs)
def stepDD (e : Env) (R : Ending → World → Prop) (S : World → Prop) (m : Nat) (all : List Oper) (todo : List Item) (r : List Nat) (o : Oper) (g : Nat → Bool) (f : F) (w : World) : Prop := stepD e S all o g f w fun g' f' w' => vcD e R S m all todo r g' f' w'
def dL (e : Env) (R : Ending → World → Prop) (S : World → Prop) (m : Nat) (all : List Oper) (todo : List Item) (r : List Nat) (g : Nat → Bool) (f : F) (d : Option Nat) (w : World) (v : Value) : Prop := vcD e R S m all todo r (updG g d true) (updO e.n f d v) w
def dLT (e : Env) (R : Ending → World → Prop) (S : World → Prop) (m : Nat) (all : List Oper) (todo : List Item) (r : List Nat) (g : Nat → Bool) (f : F) (d : Option Nat) (w : World) (t : TypeId) (x : Operand) (_ : Unit) : Prop := LoadsD e.P t (ev f x) S (dL e R S m all todo r g f d w)
def dLF (e : Env) (R : Ending → World → Prop) (S : World → Prop) (m : Nat) (all : List Oper) (todo : List Item) (r : List Nat) (g : Nat → Bool) (f : F) (d : Option Nat) (w : World) (t : TypeId) (_ : Unit) : Prop := exCells (cls e.P 8 t) fun cs => vcD e R S m all todo r (updG g d false) (updO e.n f d (mk1 (aggB e.P t) cs)) w
def dE (e : Env) (R : Ending → World → Prop) (S : World → Prop) (m : Nat) (all : List Oper) (todo : List Item) (r : List Nat) (g : Nat → Bool) (f : F) (d : Option Nat) (v : Value) (w : World) : Prop := S w ∧ vcD e R S m all todo r (updG g d true) (updO e.n f d v) w
def dET (e : Env) (o : Oper) (g : Nat → Bool) (f : F) (w : World) (K : Value → World → Prop) (_ : Unit) : Prop := readsOk g true o.op.operands.toList ∧ noY (ev f) o.op ∧ eff e o (ev f) w K
def dEF (e : Env) (R : Ending → World → Prop) (S : World → Prop) (m : Nat) (all : List Oper) (todo : List Item) (r : List Nat) (g : Nat → Bool) (f : F) (w : World) (_ : Unit) : Prop := vcD e R S m all todo r g f w

theorem vsd {e : Env} {R : Ending → World → Prop} :
    (∀ (S : World → Prop) m all todo g f w, vcD e R S m all todo [] g f w = vc e R m (.code todo) (real g f) w) ∧
    (∀ (S : World → Prop) m all todo i r g f w, vcD e R S m all todo (i :: r) g f w = stepDD e R S m all todo r (opAt all i) g f w) ∧
    (∀ (S : World → Prop) m all todo r d t x ty pos aft gd g f w, stepDD e R S m all todo r ⟨d, .load t x, ty, pos, aft, gd⟩ g f w = (dstOk e.n d ∧ readsOk g (cnd all f g ⟨d, .load t x, ty, pos, aft, gd⟩) [x] ∧ ldOk e.P t = true ∧ gdo (cnd all f g ⟨d, .load t x, ty, pos, aft, gd⟩) (dLT e R S m all todo r g f d w t x) (dLF e R S m all todo r g f d w t))) ∧
    (∀ (S : World → Prop) m all todo r o g f w, isPure e.P o.op = true → stepDD e R S m all todo r o g f w = (dstOk e.n o.dst ∧ (cnd all f g o = true → okOf e.P (ev f) o.op) ∧ readsFor f g (cnd all f g o) o.op ∧ vcD e R S m all todo r (updG g o.dst (cnd all f g o)) (updO e.n f o.dst (valOf e.P (ev f) o.op)) w)) ∧
    (∀ (S : World → Prop) m all todo r o g f w, isPure e.P o.op = false → isLoad o.op = false → stepDD e R S m all todo r o g f w = (dstOk e.n o.dst ∧ gdo (cnd all f g o) (dET e o g f w (dE e R S m all todo r g f o.dst)) (dEF e R S m all todo r g (updO e.n f o.dst undef) w))) := by
  (repeat' apply And.intro)
  · intros; rfl
  · intros; rfl
  · intros S m all todo r d t x ty pos aft gd g f w
    unfold stepDD stepD
    simp only [pures, Bool.false_eq_true, if_false]
    congr 1; congr 1; congr 1
    unfold gdo dLT dLF LoadsD dL
    cases cnd all f g ⟨d, .load t x, ty, pos, aft, gd⟩ <;> simp
  · intro S m all todo r o g f w h; unfold stepDD stepD; rw [if_pos h]
  · intro S m all todo r o g f w h h2; unfold stepDD stepD; rw [if_neg (by rw [h]; decide)]
    split
    · rename_i t x ho; rw [ho] at h2; cases h2
    · rfl
theorem vsdk :
    (∀ (e : Env) R S m all todo r g f d w v, dL e R S m all todo r g f d w v = vcD e R S m all todo r (updG g d true) (updO e.n f d v) w) ∧
    (∀ (e : Env) R S m all todo r g f d w t x u, dLT e R S m all todo r g f d w t x u = LoadsD e.P t (ev f x) S (dL e R S m all todo r g f d w)) ∧
    (∀ (e : Env) R S m all todo r g f d w t u, dLF e R S m all todo r g f d w t u = exCells (cls e.P 8 t) fun cs => vcD e R S m all todo r (updG g d false) (updO e.n f d (mk1 (aggB e.P t) cs)) w) ∧
    (∀ (e : Env) R S m all todo r g f d v w, dE e R S m all todo r g f d v w = (S w ∧ vcD e R S m all todo r (updG g d true) (updO e.n f d v) w)) ∧
    (∀ (e : Env) o g f w K u, dET e o g f w K u = (readsOk g true o.op.operands.toList ∧ noY (ev f) o.op ∧ eff e o (ev f) w K)) ∧
    (∀ (e : Env) R S m all todo r g f w u, dEF e R S m all todo r g f w u = vcD e R S m all todo r g f w) := by
  (repeat' apply And.intro) <;> intros <;> rfl
theorem LoadsD.of {P : Program} {t : TypeId} {a : Addr} {cs : List Value} {S : World → Prop} {K : Value → Prop} (hf : fits (cls P 8 t) cs = true) (hr : ∀ w', S w' → rowAt w' a cs) (h : K (mk1 (aggB P t) cs)) : LoadsD P t (.pointer (some a)) S K :=
  exCells_in _ _ _ hf ⟨⟨a, rfl, hr⟩, h⟩
theorem LoadsD.one {P : Program} {t : TypeId} {a : Addr} {v : Value} {S : World → Prop} {K : Value → Prop} (hf : fits (cls P 8 t) [v] = true) (hg : aggB P t = false) (hr : ∀ w', S w' → rowAt w' a [v]) (h : K v) : LoadsD P t (.pointer (some a)) S K :=
  LoadsD.of hf hr (by rw [hg]; exact h)
theorem Row.ldD {P : Program} {t e : TypeId} {w : World} {b : Nat} {cs : List Value} (h : Row w b e cs) (i : Nat) {v : Value} (hv : cs[i]? = some v) (hf : fits (cls P 8 t) [v] = true) (hg : aggB P t = false) {S : World → Prop} (hS : ∀ w', S w' → Kept w w') {K : Value → Prop} (hk : K v) : LoadsD P t (.pointer (some ⟨b, i, none⟩)) S K :=
  LoadsD.one hf hg (fun w' hw => (h.keep (hS w' hw)).at_ hv) hk
theorem LoadsD.eq1 {P : Program} {t : TypeId} {a : Addr} {v : Value} {S : World → Prop} {w : World} (hf : fits (cls P 8 t) [v] = true) (hg : aggB P t = false) (hS : S w) (hr : ∀ w', S w' → rowAt w' a [v]) (K : Value → Prop) : LoadsD P t (.pointer (some a)) S K = K v := by
  apply propext
  constructor
  · intro h
    obtain ⟨cs', hl, ⟨a', ha, hr'⟩, hk⟩ := exCells_out _ _ h
    simp only [Value.pointer.injEq, Option.some.injEq] at ha
    subst ha
    have := rowAt_inj (hr w hS) (hr' w hS) (by rw [hl, fits_len hf])
    subst this
    rw [hg] at hk; exact hk
  · exact LoadsD.one hf hg hr
/-- A load in a region that draws, where only new blocks turn. -/
theorem Row.ldE {P : Program} {t e : TypeId} {w : World} {b : Nat} {cs : List Value} (h : Row w b e cs) (i : Nat) {v : Value} (hv : cs[i]? = some v) (hf : fits (cls P 8 t) [v] = true) (hg : aggB P t = false) (K : Value → Prop) : LoadsD P t (.pointer (some ⟨b, i, none⟩)) (fun v => Kept w v) K = K v :=
  LoadsD.eq1 (w := w) hf hg (Kept.refl w) (fun w' hw => (h.keep hw).at_ hv) K
theorem LoadsD.eqs {P : Program} {t : TypeId} {a : Addr} {cs : List Value} {S : World → Prop} {w : World} (hf : fits (cls P 8 t) cs = true) (hS : S w) (hr : ∀ w', S w' → rowAt w' a cs) (K : Value → Prop) : LoadsD P t (.pointer (some a)) S K = K (mk1 (aggB P t) cs) := by
  apply propext
  constructor
  · intro h
    obtain ⟨cs', hl, ⟨a', ha, hr'⟩, hk⟩ := exCells_out _ _ h
    simp only [Value.pointer.injEq, Option.some.injEq] at ha
    subst ha
    have := rowAt_inj (hr w hS) (hr' w hS) (by rw [hl, fits_len hf])
    subst this
    exact hk
  · exact LoadsD.of hf hr
theorem Row.ldAllE {P : Program} {t e : TypeId} {w : World} {b : Nat} {cs : List Value} (h : Row w b e cs) (hf : fits (cls P 8 t) cs = true) (K : Value → Prop) : LoadsD P t (.pointer (some ⟨b, 0, none⟩)) (fun v => Kept w v) K = K (mk1 (aggB P t) cs) :=
  LoadsD.eqs (w := w) hf (Kept.refl w) (fun w' hw => (h.keep hw).all) K
theorem Own.at0 {w : World} {B : Nat} {e : TypeId} {z : Nat} {s : Sl} {cs : List Value} (h : Own w B e z s cs) (hl : s.len ≠ 0) : ∃ g, s.a = some ⟨g, 0, none⟩ := by
  rcases h.2 with ⟨_, h0⟩ | ⟨g, cap, cur, hv, _⟩
  · exact absurd h0 hl
  · simp only [Sl.v, Value.slice.injEq] at hv; exact ⟨g, hv.1⟩
/-- A slice literal's row is the call's own. -/
theorem Own.built (w : World) (e : TypeId) {z n : Nat} {cs : List Value} (hl : cs.length = n * z) (hn : n ≤ 1000000) : Own (w.alloc (.cells cs.toArray e)) w.heap.size e z ⟨some ⟨w.heap.size, 0, none⟩, n, n⟩ cs :=
  ⟨hl, .inr ⟨w.heap.size, n, cs.toArray, rfl, Nat.le_refl _, Row.new w e cs, Nat.le_refl _, by unfold maxLen; omega, by simpa using hl, by simp [← hl]⟩⟩
theorem purCs : (∀ t, purC .slice t = false) ∧ (∀ t, purC .ptr t = false) ∧ (∀ t, purC .other t = false) ∧ (∀ t, purC .map t = false) ∧ (∀ t, purC .struct t = false) ∧ (∀ t, purC .arr t = false) ∧ (∀ t, purC .func t = false) ∧ (∀ t, purC .bool t = false) ∧ (∀ k, purC (.int k) .slice = false) ∧ (∀ k, purC (.int k) .other = false) ∧ (∀ k, purC .str (.int k) = false) ∧ purL .ptr = false ∧ purL .other = false := by
  (repeat' apply And.intro) <;> intros <;> rfl
end Go.Vc
