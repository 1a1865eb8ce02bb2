/- The rules by which a walk computes. Nothing of any program stands here. -/
import Derived.Test.YtcjdbmcklemkkaaDoorVcRun
namespace Go.Vc
open Go

/-- The walk, point by point. (To be used ahead of the parts: '↓vcs'.) -/
theorem vcs :
    (∀ (e : Env), ∀ (R : Ending → World → Prop), ∀ (m : Nat), ∀ (f : F), ∀ (w : World), vc e R (m + 1) (.code []) f w = endO e R none f w) ∧
    (∀ (e : Env), ∀ (R : Ending → World → Prop), ∀ (m : Nat), ∀ (f : F), ∀ (w : World), ∀ (todo : List Item), ∀ i, vc e R (m + 1) (.code (.inBlock i :: todo)) f w = vc e R m (.code todo) f w) ∧
    (∀ (e : Env), ∀ (R : Ending → World → Prop), ∀ (m : Nat), ∀ (f : F), ∀ (w : World), ∀ (todo : List Item), ∀ c, vc e R (m + 1) (.code (.inScope c :: todo)) f w = vc e R m (.code todo) f w) ∧
    (∀ (e : Env), ∀ (R : Ending → World → Prop), ∀ (m : Nat), ∀ (f : F), ∀ (w : World), ∀ (todo : List Item), ∀ c, vc e R (m + 1) (.code (.code (.scope c) :: todo)) f w = vc e R m (.code (.code c :: .inScope c :: todo)) f w) ∧
    (∀ (e : Env), ∀ (R : Ending → World → Prop), ∀ (m : Nat), ∀ (f : F), ∀ (w : World), ∀ (todo : List Item), vc e R (m + 1) (.code (.beginRound :: todo)) f w = Sem e R (.code (.beginRound :: todo)) f w) ∧
    (∀ (e : Env), ∀ (R : Ending → World → Prop), ∀ (m : Nat), ∀ (f : F), ∀ (w : World), ∀ (todo : List Item), ∀ g ps as bd, vc e R (m + 1) (.code (.code (.rangeFunc g ps as bd) :: todo)) f w = Sem e R (.code (.code (.rangeFunc g ps as bd) :: todo)) f w) ∧
    (∀ (e : Env), ∀ (R : Ending → World → Prop), ∀ (m : Nat), ∀ (f : F), ∀ (w : World), ∀ (todo : List Item), ∀ c, vc e R (m + 1) (.code (.inLoop c :: todo)) f w = Sem e R (.code (.code c :: .inLoop c :: todo)) f w) ∧
    (∀ (e : Env), ∀ (R : Ending → World → Prop), ∀ (m : Nat), ∀ (f : F), ∀ (w : World), ∀ (todo : List Item), vc e R (m + 1) (.code (.code .skip :: todo)) f w = vc e R m (.code todo) f w) ∧
    (∀ (e : Env), ∀ (R : Ending → World → Prop), ∀ (m : Nat), ∀ (f : F), ∀ (w : World), ∀ (todo : List Item), ∀ l, vc e R (m + 1) (.code (.code (.label l) :: todo)) f w = vc e R m (.code todo) f w) ∧
    (∀ (e : Env), ∀ (R : Ending → World → Prop), ∀ (m : Nat), ∀ (f : F), ∀ (w : World), ∀ (todo : List Item), ∀ a b, vc e R (m + 1) (.code (.code (.seq a b) :: todo)) f w = vc e R m (.code (.code a :: .code b :: todo)) f w) ∧
    (∀ (e : Env), ∀ (R : Ending → World → Prop), ∀ (m : Nat), ∀ (f : F), ∀ (w : World), ∀ (todo : List Item), ∀ i c, vc e R (m + 1) (.code (.code (.block i c) :: todo)) f w = vc e R m (.code (.code c :: .inBlock i :: todo)) f w) ∧
    (∀ (e : Env), ∀ (R : Ending → World → Prop), ∀ (m : Nat), ∀ (f : F), ∀ (w : World), ∀ (todo : List Item), ∀ c, vc e R (m + 1) (.code (.code (.loop c) :: todo)) f w = Sem e R (.code (.code c :: .inLoop c :: todo)) f w) ∧
    (∀ (e : Env), ∀ (R : Ending → World → Prop), ∀ (m : Nat), ∀ (f : F), ∀ (w : World), ∀ (todo : List Item), ∀ i l, vc e R (m + 1) (.code (.code (.region i (List.toArray l) false) :: todo)) f w = vc e R m (.ops l l todo) f w) ∧
    (∀ (e : Env), ∀ (R : Ending → World → Prop), ∀ (m : Nat), ∀ (f : F), ∀ (w : World), ∀ (todo : List Item), ∀ i l, vc e R (m + 1) (.code (.code (.region i l true) :: todo)) f w = Sem e R (.code (.code (.region i l true) :: todo)) f w) ∧
    (∀ (e : Env), ∀ (R : Ending → World → Prop), ∀ (m : Nat), ∀ (f : F), ∀ (w : World), ∀ (todo : List Item), ∀ x a b, vc e R (m + 1) (.code (.code (.cond x a b) :: todo)) f w = (isB (ev f x) ∧ (if toB (ev f x) = true then vc e R m (.code (.code a :: todo)) f w else vc e R m (.code (.code b :: todo)) f w))) ∧
    (∀ (e : Env), ∀ (R : Ending → World → Prop), ∀ (m : Nat), ∀ (f : F), ∀ (w : World), ∀ (todo : List Item), ∀ i, vc e R (m + 1) (.code (.code (.exit i) :: todo)) f w = vcX (fun k => vc e R m (.code k) f w) (endX e R i f w) i todo) ∧
    (∀ (e : Env), ∀ (R : Ending → World → Prop), ∀ (m : Nat), ∀ (f : F), ∀ (w : World), ∀ (todo : List Item), vc e R (m + 1) (.code (.code .ret :: todo)) f w = endO e R (some .ret) f w) ∧
    (∀ (e : Env), ∀ (R : Ending → World → Prop), ∀ (m : Nat), ∀ (f : F), ∀ (w : World), ∀ (todo : List Item), ∀ (all : List Oper), vc e R (m + 1) (.ops all [] todo) f w = vc e R m (.code todo) f w) ∧
    (∀ (e : Env), ∀ (R : Ending → World → Prop), ∀ (m : Nat), ∀ (f : F), ∀ (w : World), ∀ (todo : List Item), ∀ (all : List Oper), ∀ (rest : List Oper), ∀ d x ty pos aft, vc e R (m + 1) (.ops all (⟨d, .move x, ty, pos, aft, none⟩ :: rest) todo) f w = vc e R m (.ops all rest todo) (updO e.n f d (ev f x)) w) ∧
    (∀ (e : Env), ∀ (R : Ending → World → Prop), ∀ (m : Nat), ∀ (f : F), ∀ (w : World), ∀ (todo : List Item), ∀ (all : List Oper), ∀ (rest : List Oper), ∀ d x ty pos aft, vc e R (m + 1) (.ops all (⟨d, .assign x, ty, pos, aft, none⟩ :: rest) todo) f w = vc e R m (.ops all rest todo) (updO e.n f d (ev f x)) w) ∧
    (∀ (e : Env), ∀ (R : Ending → World → Prop), ∀ (m : Nat), ∀ (f : F), ∀ (w : World), ∀ (todo : List Item), ∀ (all : List Oper), ∀ (rest : List Oper), ∀ d op ty pos aft gd, vc e R (m + 1) (.ops all (⟨d, op, ty, pos, aft, some gd⟩ :: rest) todo) f w = vc e R m (.opsG all (⟨d, op, ty, pos, aft, some gd⟩ :: rest) todo gT) f w) ∧
    (∀ (e : Env), ∀ (R : Ending → World → Prop), ∀ (m : Nat), ∀ (f : F), ∀ (w : World), ∀ (todo : List Item), ∀ (all : List Oper), ∀ (rest : List Oper), ∀ d op ty pos aft, vc e R (m + 1) (.ops all (⟨d, op, ty, pos, aft, none⟩ :: rest) todo) f w =
      (if isPure e.P op = true then okOf e.P (ev f) op ∧ vc e R m (.ops all rest todo) (updO e.n f d (valOf e.P (ev f) op)) w
       else eff e ⟨d, op, ty, pos, aft, none⟩ (ev f) w fun v w' => vc e R m (.ops all rest todo) (updO e.n f d v) w')) ∧
    (∀ (e : Env), ∀ (R : Ending → World → Prop), ∀ (m : Nat), ∀ (f : F), ∀ (w : World), ∀ (todo : List Item), ∀ (all : List Oper), ∀ (g : Nat → Bool), vc e R (m + 1) (.opsG all [] todo g) f w = vc e R m (.code todo) (real g f) w) ∧
    (∀ (e : Env), ∀ (R : Ending → World → Prop), ∀ (m : Nat), ∀ (f : F), ∀ (w : World), ∀ (todo : List Item), ∀ (all : List Oper), ∀ (rest : List Oper), ∀ (o : Oper), ∀ (g : Nat → Bool), vc e R (m + 1) (.opsG all (o :: rest) todo g) f w =
      (if isPure e.P o.op = true then dstOk e.n o.dst ∧ (cnd all f g o = true → okOf e.P (ev f) o.op) ∧ readsFor f g (cnd all f g o) o.op ∧ vc e R m (.opsG all rest todo (updG g o.dst (cnd all f g o))) (updO e.n f o.dst (valOf e.P (ev f) o.op)) w
       else dstOk e.n o.dst ∧ if cnd all f g o = true then readsOk g true o.op.operands.toList ∧ eff e o (ev f) w fun v w' => vc e R m (.opsG all rest todo (updG g o.dst true)) (updO e.n f o.dst v) w'
       else vc e R m (.opsG all rest todo g) (updO e.n f o.dst undef) w)) := by
  (repeat' apply And.intro) <;> intros <;> first | rfl | (simp [vc, isPure, okOf, valOf]; done) | (simp only [vc, Option.isSome_none, Bool.false_eq_true, if_false])

/-- The way to a block's end; the call's end; what turns memory. -/
theorem vcs2 :
    (∀ (KX : List Item → Prop) Z, ∀ id id' k, vcX KX Z id (.inBlock id' :: k) = if id' = id then KX k else vcX KX Z id k) ∧
    (∀ (KX : List Item → Prop) Z, ∀ id c k, vcX KX Z id (.code c :: k) = vcX KX Z id k) ∧
    (∀ (KX : List Item → Prop) Z, ∀ id c k, vcX KX Z id (.inLoop c :: k) = vcX KX Z id k) ∧
    (∀ (KX : List Item → Prop) Z, ∀ id c k, vcX KX Z id (.inScope c :: k) = vcX KX Z id k) ∧
    (∀ (KX : List Item → Prop) Z, ∀ id, vcX KX Z id [] = Z) ∧
    (∀ P k n fn res (R : Ending → World → Prop) j (f : F) (w : World), endO ⟨P, k, n, fn, res, none, []⟩ R j f w = fin ⟨P, k, n, fn, res, none, []⟩ R f w res []) ∧
    (∀ P k n fn res D (R : Ending → World → Prop) j (f : F) (w : World), endO ⟨P, k, n, fn, res, none, [mark D]⟩ R j f w = ∃ D' w', mark D = mark D' ∧ (Instr.takeDeferred D').run P w = .ok [] w' ∧ fin ⟨P, k, n, fn, res, none, [mark D]⟩ R f w' res []) ∧
    (∀ P k n fn res l ds (R : Ending → World → Prop) j (f : F) (w : World), endO ⟨P, k, n, fn, res, some l, ds⟩ R j f w = ∃ v w', (Instr.endRound l j).run P w = .ok v w' ∧ R (.returned v) w') ∧
    (∀ P k n fn res l ds (R : Ending → World → Prop) j (f : F) (w : World), endX ⟨P, k, n, fn, res, some l, ds⟩ R j f w = ∃ v w', (Instr.endRound l (some (.exit j))).run P w = .ok v w' ∧ R (.returned v) w') ∧
    (∀ (e : Env), ∀ (R : Ending → World → Prop), ∀ (f : F), ∀ (w : World), ∀ acc, fin e R f w [] acc = R (.returned (tupled acc.reverse)) w) ∧
    (∀ (e : Env), ∀ (R : Ending → World → Prop), ∀ (f : F), ∀ (w : World), ∀ t r acc, fin e R f w (.tmp t :: r) acc = fin e R f w r (f t :: acc)) ∧
    (∀ (e : Env), ∀ (R : Ending → World → Prop), ∀ (f : F), ∀ (w : World), ∀ a t r acc, fin e R f w (.cell a t :: r) acc = (ldOk e.P t = true ∧ Loads e.P t (f a) w fun v => fin e R f w r (v :: acc))) ∧
    (∀ (e : Env), ∀ (w : World), ∀ (K : Value → World → Prop), ∀ (ρ : Operand → Value), ∀ d t a ty pos aft gd, eff e ⟨d, .load t a, ty, pos, aft, gd⟩ ρ w K = (ldOk e.P t = true ∧ Loads e.P t (ρ a) w fun v => K v w)) ∧
    (∀ (e : Env), ∀ (w : World), ∀ (K : Value → World → Prop), ∀ (ρ : Operand → Value), ∀ d t ty pos aft gd, eff e ⟨d, .alloc t, ty, pos, aft, gd⟩ ρ w K = (zOk e.P t = true ∧ K (.pointer (some ⟨w.heap.size, 0, none⟩)) (w.alloc (.cells (zcs e.P t) t)))) ∧
    (∀ (e : Env), ∀ (w : World), ∀ (K : Value → World → Prop), ∀ (ρ : Operand → Value), ∀ d t x ty pos aft gd, eff e ⟨d, .box t x, ty, pos, aft, gd⟩ ρ w K = K (.pointer (some ⟨w.heap.size, 0, none⟩)) (w.alloc (.cells (ρ x).cells t))) ∧
    (∀ (e : Env), ∀ (w : World), ∀ (K : Value → World → Prop), ∀ (ρ : Operand → Value), ∀ d t a x ty pos aft gd, eff e ⟨d, .store t a x, ty, pos, aft, gd⟩ ρ w K = ∃ w', (Instr.storeAt t (ρ a) (ρ x)).run e.P w = .ok () w' ∧ K undef w') ∧
    (∀ (e : Env), ∀ (w : World), ∀ (K : Value → World → Prop), ∀ (ρ : Operand → Value), ∀ d fx xs ts ty pos aft gd, eff e ⟨d, .call ⟨.value fx, xs, ts⟩, ty, pos, aft, gd⟩ ρ w K = callE e.P (ρ fx) (xs.map ρ) w fun x w' => exShp (shp e.P ty) fun v => x = .returned v ∧ K v w') ∧
    (∀ (e : Env), ∀ (w : World), ∀ (K : Value → World → Prop), ∀ (ρ : Operand → Value), ∀ d t len ps ty pos aft gd, eff e ⟨d, .buildSlice t len ps, ty, pos, aft, gd⟩ ρ w K = (isSlc e.P t = true ∧ zOk e.P (e.P.elem t) = true ∧ len * esz e.P t ≤ 2 ^ 24 ∧ fullOk e.P t len 0 (ps.toList.map fun p => (p.1, ρ p.2)) ∧
      K (Sl.v ⟨some ⟨w.heap.size, 0, none⟩, len, len⟩) (w.alloc (.cells (flatV (ps.toList.map fun p => (p.1, ρ p.2))).toArray (e.P.elem t))))) ∧
    (∀ (e : Env), ∀ (w : World), ∀ (K : Value → World → Prop), ∀ (ρ : Operand → Value), ∀ d xs ts ty pos aft gd, eff e ⟨d, .call ⟨.builtin .append, xs, ts⟩, ty, pos, aft, gd⟩ ρ w K = exShp (shp e.P ty) fun v => ∃ w', (Builtin.append_ ts ty (xs.map ρ)).run e.P w = .ok v w' ∧ K v w') ∧
    (∀ (e : Env), ∀ (w : World), ∀ (K : Value → World → Prop), ∀ (ρ : Operand → Value), ∀ d xs ts ty pos aft gd, eff e ⟨d, .call ⟨.builtin .copy, xs, ts⟩, ty, pos, aft, gd⟩ ρ w K = exShp (shp e.P ty) fun v => ∃ w', (Builtin.copy_ ts ty (xs.map ρ)).run e.P w = .ok v w' ∧ K v w') ∧
    (∀ (e : Env), ∀ (w : World), ∀ (K : Value → World → Prop), ∀ (ρ : Operand → Value), ∀ d xs ts ty pos aft gd, eff e ⟨d, .call ⟨.builtin .max, xs, ts⟩, ty, pos, aft, gd⟩ ρ w K = exShp (shp e.P ty) fun v => ∃ w', (Builtin.max_ ts ty (xs.map ρ)).run e.P w = .ok v w' ∧ K v w') ∧
    (∀ (e : Env), ∀ (w : World), ∀ (K : Value → World → Prop), ∀ (ρ : Operand → Value), ∀ d xs ts ty pos aft gd, eff e ⟨d, .call ⟨.builtin .min, xs, ts⟩, ty, pos, aft, gd⟩ ρ w K = exShp (shp e.P ty) fun v => ∃ w', (Builtin.min_ ts ty (xs.map ρ)).run e.P w = .ok v w' ∧ K v w') ∧
    (∀ (e : Env), ∀ (w : World), ∀ (K : Value → World → Prop), ∀ (ρ : Operand → Value), ∀ d a b x ty pos aft gd, eff e ⟨d, .convert a b x, ty, pos, aft, gd⟩ ρ w K = exShp (shp e.P ty) fun v => ∃ w', (convert a b (ρ x)).run e.P w = .ok v w' ∧ K v w') ∧
    (∀ (e : Env), ∀ (w : World), ∀ (K : Value → World → Prop), ∀ (ρ : Operand → Value), ∀ d t r ty pos aft gd, eff e ⟨d, .makeMap t r, ty, pos, aft, gd⟩ ρ w K = exShp (shp e.P ty) fun v => ∃ w', (Instr.makeMap t (r.map ρ)).run e.P w = .ok v w' ∧ K v w') ∧
    (∀ (e : Env), ∀ (w : World), ∀ (K : Value → World → Prop), ∀ (ρ : Operand → Value), ∀ d t a b ty pos aft gd, eff e ⟨d, .makeSlice t a b, ty, pos, aft, gd⟩ ρ w K = exShp (shp e.P ty) fun v => ∃ w', (Instr.makeSlice t (ρ a) (ρ b)).run e.P w = .ok v w' ∧ K v w') ∧
    (∀ (e : Env), ∀ (w : World), ∀ (K : Value → World → Prop), ∀ (ρ : Operand → Value), ∀ d t a b c ty pos aft gd, eff e ⟨d, .lookup t a b c, ty, pos, aft, gd⟩ ρ w K = exShp (shp e.P ty) fun v => ∃ w', (Instr.lookup t (ρ a) (ρ b) c).run e.P w = .ok v w' ∧ K v w') ∧
    (∀ (e : Env), ∀ (w : World), ∀ (K : Value → World → Prop), ∀ (ρ : Operand → Value), ∀ d t m k x ty pos aft gd, eff e ⟨d, .mapUpdate t m k x, ty, pos, aft, gd⟩ ρ w K = ∃ w', (Instr.mapUpdate t (ρ m) (ρ k) (ρ x)).run e.P w = .ok () w' ∧ K undef w') ∧
    (∀ (e : Env), ∀ (w : World), ∀ (K : Value → World → Prop), ∀ (ρ : Operand → Value), ∀ d t m k x ty pos aft gd, eff e ⟨d, .insert t m k x, ty, pos, aft, gd⟩ ρ w K = ∃ w', (Instr.mapUpdate t (ρ m) (ρ k) (ρ x)).run e.P w = .ok () w' ∧ K undef w') ∧
    (∀ (e : Env), ∀ (w : World), ∀ (K : Value → World → Prop), ∀ (ρ : Operand → Value), ∀ d t x ty pos aft gd, eff e ⟨d, .range t x, ty, pos, aft, gd⟩ ρ w K = ∃ v w', (Instr.range t (ρ x)).run e.P w = .ok v w' ∧ K v w') ∧
    (∀ (e : Env), ∀ (w : World), ∀ (K : Value → World → Prop), ∀ (ρ : Operand → Value), ∀ d x s ty pos aft gd, eff e ⟨d, .next x s, ty, pos, aft, gd⟩ ρ w K = ∃ v w', (Instr.next (ρ x) s ty).run e.P w = .ok v w' ∧ K v w') ∧
    (∀ (e : Env), ∀ (w : World), ∀ (K : Value → World → Prop), ∀ (ρ : Operand → Value), ∀ d t x ty pos aft gd, eff e ⟨d, .makeInterface t x, ty, pos, aft, gd⟩ ρ w K = exShp (shp e.P ty) fun v => ∃ w', (Instr.makeInterface t (ρ x)).run e.P w = .ok v w' ∧ K v w') := by
  (repeat' apply And.intro) <;> intros <;> first | rfl | (unfold eff; dsimp only; congr 1; funext v; congr 1; funext w'; congr 1; simp only [execOp, builtin, Sem.run_bind, Sem.run_pure]; apply propext; constructor <;> intro h <;> first | (rw [h]; rfl) | (revert h; generalize Go.Sem.run _ _ _ = r; intro h; cases r <;> simp at h; obtain ⟨rfl, rfl⟩ := h; rfl))

/-- Typed values. -/
theorem vcs3 :
    (∀ (K : List Value → Prop), exCells [] K = K []) ∧
    (∀ (K : List Value → Prop), ∀ (r : List Cl), ∀ k, exCells (.int k :: r) K = ∃ n : Int, exCells r fun l => K (.int k n :: l)) ∧
    (∀ (K : List Value → Prop), ∀ (r : List Cl), exCells (.bool :: r) K = ∃ n : Bool, exCells r fun l => K (.bool n :: l)) ∧
    (∀ (K : List Value → Prop), ∀ (r : List Cl), exCells (.str :: r) K = ∃ n : ByteArray, exCells r fun l => K (.string n :: l)) ∧
    (∀ (K : List Value → Prop), ∀ (r : List Cl), exCells (.slice :: r) K = ∃ n : Sl, exCells r fun l => K (n.v :: l)) ∧
    (∀ (K : List Value → Prop), ∀ (r : List Cl), exCells (.ptr :: r) K = ∃ n : Option Addr, exCells r fun l => K (.pointer n :: l)) ∧
    (∀ (K : List Value → Prop), ∀ (r : List Cl), exCells (.map :: r) K = ∃ n : Option Nat, exCells r fun l => K (.map n :: l)) ∧
    (∀ (K : List Value → Prop), ∀ (r : List Cl), exCells (.any :: r) K = ∃ n : Value, exCells r fun l => K (n :: l)) ∧
    (∀ (K1 : Value → Prop), ∀ b cs, exVal b cs K1 = exCells cs fun l => K1 (mk1 b l)) ∧
    (∀ (K : List Value → Prop), exTup [] K = K []) ∧
    (∀ (K : List Value → Prop), ∀ b cs r, exTup ((b, cs) :: r) K = exVal b cs fun v => exTup r fun l => K (v :: l)) ∧
    (∀ (K1 : Value → Prop), ∀ b cs, exShp (.one b cs) K1 = exVal b cs K1) ∧
    (∀ (K1 : Value → Prop), ∀ l, exShp (.tup l) K1 = exTup l fun vs => K1 (.tuple vs.toArray)) ∧
    (∀ l, mk1 true l = .agg l.toArray) ∧
    (∀ v l, mk1 false (v :: l) = v) := by
  (repeat' apply And.intro) <;> intros <;> rfl

def purT : Tag → Operand → Operand → Bool
  | .int _, _, _ | .str, _, _ | .bool, _, _ | .slice, _, _ | .map, _, _ | .func, _, _ => true
  | .ptr, x, y => isConst x || isConst y
  | _, _, _ => false
def purC : Tag → Tag → Bool
  | .int _, .int _ => true
  | .str, .str => true
  | _, _ => false
def purL : Tag → Bool
  | .str | .slice | .arr => true
  | _ => false
def purK : Tag → Bool
  | .slice => true
  | _ => false

/-- What an operation asks and yields. -/
theorem vcs4 :
    (∀ (P : Program), ∀ (ρ : Operand → Value), ∀ x, okOf P ρ (.move x) = True) ∧
    (∀ (P : Program), ∀ (ρ : Operand → Value), ∀ x, okOf P ρ (.assign x) = True) ∧
    (∀ (P : Program), ∀ (ρ : Operand → Value), ∀ a b c, okOf P ρ (.makeFunc a b c) = True) ∧
    (∀ (P : Program), ∀ (ρ : Operand → Value), ∀ c a b, okOf P ρ (.pick c a b) = isB (ρ c)) ∧
    (∀ (P : Program), ∀ (ρ : Operand → Value), ∀ op t x y t', okOf P ρ (.binOp op t x y t') = binOk P t op (ρ x) (ρ y)) ∧
    (∀ (P : Program), ∀ (ρ : Operand → Value), ∀ op t x, okOf P ρ (.unOp op t x) = unOk op (ρ x)) ∧
    (∀ (P : Program), ∀ (ρ : Operand → Value), ∀ s x i, okOf P ρ (.fieldAddr s x i) = isPtr (ρ x)) ∧
    (∀ (P : Program), ∀ (ρ : Operand → Value), ∀ s x i, okOf P ρ (.field s x i) = fieldOk (fld P s i).1 (fld P s i).2.2 (ρ x)) ∧
    (∀ (P : Program), ∀ (ρ : Operand → Value), ∀ t x i, okOf P ρ (.indexAddr t x i) = iaOk P t (ρ x) (ρ i)) ∧
    (∀ (P : Program), ∀ (ρ : Operand → Value), ∀ t x i, okOf P ρ (.index t x i) = ixOk P t (ρ x) (ρ i)) ∧
    (∀ (P : Program), ∀ (ρ : Operand → Value), ∀ t x l h m, okOf P ρ (.slice t x l h m) = slOk P t (l.map ρ) (h.map ρ) (ρ x)) ∧
    (∀ (P : Program), ∀ (ρ : Operand → Value), ∀ x, okOf P ρ (.nilCheck x) = ncOk (ρ x)) ∧
    (∀ (P : Program), ∀ (ρ : Operand → Value), ∀ s d x, okOf P ρ (.convert s d x) = cvOk P s d (ρ x)) ∧
    (∀ (P : Program), ∀ (ρ : Operand → Value), ∀ x i, okOf P ρ (.extract x i) = exOk i (ρ x)) ∧
    (∀ (P : Program), ∀ (ρ : Operand → Value), ∀ x t, okOf P ρ (.call ⟨.builtin .len, #[x], #[t]⟩) = lenOk P t (ρ x)) ∧
    (∀ (P : Program), ∀ (ρ : Operand → Value), ∀ x t, okOf P ρ (.call ⟨.builtin .cap, #[x], #[t]⟩) = capOk P t (ρ x)) ∧
    (∀ (P : Program), ∀ (ρ : Operand → Value), ∀ x, valOf P ρ (.move x) = ρ x) ∧
    (∀ (P : Program), ∀ (ρ : Operand → Value), ∀ x, valOf P ρ (.assign x) = ρ x) ∧
    (∀ (P : Program), ∀ (ρ : Operand → Value), ∀ x, valOf P ρ (.nilCheck x) = ρ x) ∧
    (∀ (P : Program), ∀ (ρ : Operand → Value), ∀ c a b, valOf P ρ (.pick c a b) = if toB (ρ c) = true then ρ a else ρ b) ∧
    (∀ (P : Program), ∀ (ρ : Operand → Value), ∀ op t x y t', valOf P ρ (.binOp op t x y t') = binV op (ρ x) (ρ y)) ∧
    (∀ (P : Program), ∀ (ρ : Operand → Value), ∀ op t x, valOf P ρ (.unOp op t x) = unV op (ρ x)) ∧
    (∀ (P : Program), ∀ (ρ : Operand → Value), ∀ s x i, valOf P ρ (.fieldAddr s x i) = faV (fld P s i).1 (ρ x)) ∧
    (∀ (P : Program), ∀ (ρ : Operand → Value), ∀ s x i, valOf P ρ (.field s x i) = fieldV (fld P s i).1 (fld P s i).2.1 (fld P s i).2.2 (ρ x)) ∧
    (∀ (P : Program), ∀ (ρ : Operand → Value), ∀ t x i, valOf P ρ (.indexAddr t x i) = iaV (esz P t) (ρ x) (ρ i)) ∧
    (∀ (P : Program), ∀ (ρ : Operand → Value), ∀ t x i, valOf P ρ (.index t x i) = ixV P t (ρ x) (ρ i)) ∧
    (∀ (P : Program), ∀ (ρ : Operand → Value), ∀ t x l h m, valOf P ρ (.slice t x l h m) = slV P t (l.map ρ) (h.map ρ) (ρ x)) ∧
    (∀ (P : Program), ∀ (ρ : Operand → Value), ∀ s d x, valOf P ρ (.convert s d x) = cvV P d (ρ x)) ∧
    (∀ (P : Program), ∀ (ρ : Operand → Value), ∀ x i, valOf P ρ (.extract x i) = exV i (ρ x)) ∧
    (∀ (P : Program), ∀ (ρ : Operand → Value), ∀ fn a c, valOf P ρ (.makeFunc fn a c) = .func fn (a.map ρ) (c.map ρ)) ∧
    (∀ (P : Program), ∀ (ρ : Operand → Value), ∀ x t, valOf P ρ (.call ⟨.builtin .len, #[x], #[t]⟩) = lenV P t (ρ x)) ∧
    (∀ (P : Program), ∀ (ρ : Operand → Value), ∀ x t, valOf P ρ (.call ⟨.builtin .cap, #[x], #[t]⟩) = capV (ρ x)) := by
  (repeat' apply And.intro) <;> intros <;> first | rfl | (simp [okOf]; done)

/-- Values. -/
theorem vals :
    (∀ f t, ev f (.tmp t) = f t) ∧
    (∀ f v, ev f (.const v) = v) ∧
    (∀ f g, ev f (.global g) = .pointer (some ⟨g, 0, none⟩)) ∧
    (∀ f k, ev f (.func k) = .func (.func k) #[] #[]) ∧
    (∀ n f d v i, upd n f d v i = if i = d ∧ d < n then v else f i) ∧
    (∀ n f d v, updO n f (some d) v = upd n f d v) ∧
    (∀ n f v, updO n f none v = f) ∧
    (∀ f g t, real g f t = if g t = true then f t else undef) ∧
    (∀ b, isB (.bool b) = True) ∧
    (∀ b, toB (.bool b) = b) ∧
    (∀ op k a k' b, binV op (.int k a) (.int k' b) = intV op k a b) ∧
    (∀ (P : Program), ∀ op k a k' b t, binOk P t op (.int k a) (.int k' b) = intOk op k k' b) ∧
    (∀ op a b, binV op (.string a) (.string b) = strV op a b) ∧
    (∀ (P : Program), ∀ op a b t, binOk P t op (.string a) (.string b) = strOk op a b) ∧
    (∀ op a b, binV op (.bool a) (.bool b) = eqV op (a == b)) ∧
    (∀ (P : Program), ∀ op a b t, binOk P t op (.bool a) (.bool b) = (eqOk op ∧ tag P t = .bool)) ∧
    (∀ op (a b : Sl), binV op a.v b.v = eqV op (a.a.isNone && b.a.isNone)) ∧
    (∀ (P : Program), ∀ op (a b : Sl) t, binOk P t op a.v b.v = (eqOk op ∧ tag P t = .slice ∧ (a.a = none ∨ b.a = none))) ∧
    (∀ op a b, binV op (.pointer a) (.pointer b) = eqV op (a.isNone && b.isNone)) ∧
    (∀ (P : Program), ∀ op a b t, binOk P t op (.pointer a) (.pointer b) = (eqOk op ∧ tag P t = .ptr ∧ (a = none ∨ b = none))) ∧
    (∀ op a b, binV op (.map a) (.map b) = eqV op (a.isNone && b.isNone)) ∧
    (∀ (P : Program), ∀ op a b t, binOk P t op (.map a) (.map b) = (eqOk op ∧ tag P t = .map ∧ (a = none ∨ b = none))) ∧
    (∀ b, eqV .eql b = .bool b) ∧
    (∀ b, eqV .neq b = .bool (!b)) ∧
    (eqOk .eql = True) ∧
    (eqOk .neq = True) ∧
    (∀ op k n, unV op (.int k n) = match op with | .neg => .int k (k.wrap (0 - n)) | .xor => .int k (bits .xor k (if k.signed then -1 else k.max) n) | _ => undef) ∧
    (∀ b, unV .not (.bool b) = .bool (!b)) ∧
    (∀ b, unOk .not (.bool b) = True) ∧
    (∀ k n, unOk .neg (.int k n) = True) ∧
    (∀ k n, unOk .xor (.int k n) = True) ∧
    (∀ off a, faV off (.pointer (some a)) = .pointer (some (a.add off))) ∧
    (∀ a, isPtr (.pointer (some a)) = True) ∧
    (∀ off size agg cs, fieldV off size agg (.agg cs) = if agg = true then .agg (cs.extract off (off + size)) else cs.getD off undef) ∧
    (∀ off agg cs, fieldOk off agg (.agg cs) = (agg = true ∨ off < cs.size)) ∧
    (∀ z (s : Sl) k i, iaV z s.v (.int k i) = .pointer (some ((adr s.a).add (i.toNat * z)))) ∧
    (∀ (P : Program), ∀ t (s : Sl) k i, iaOk P t s.v (.int k i) = (isSlc P t = true ∧ s.a.isSome = true ∧ 0 ≤ i ∧ i < s.len)) ∧
    (∀ z a k i, iaV z (.pointer a) (.int k i) = .pointer (some ((adr a).add (i.toNat * z)))) ∧
    (∀ (P : Program), ∀ t a k i, iaOk P t (.pointer a) (.int k i) = (isArr P t = true ∧ a.isSome = true ∧ 0 ≤ i ∧ i < alen P t)) ∧
    (∀ (P : Program), ∀ t s k i, ixV P t (.string s) (.int k i) = .int .u8 (byteAt s i.toNat).toNat) ∧
    (∀ (P : Program), ∀ t s k i, ixOk P t (.string s) (.int k i) = (tag P t = .str ∧ 0 ≤ i ∧ i < s.size)) ∧
    (∀ (P : Program), ∀ t cs k i, ixV P t (.agg cs) (.int k i) = if aggB P (P.elem t) = true then .agg (cs.extract (i.toNat * esz P t) (i.toNat * esz P t + esz P t)) else cs.getD (i.toNat * esz P t) undef) ∧
    (∀ (P : Program), ∀ t cs k i, ixOk P t (.agg cs) (.int k i) = (isArr P t = true ∧ 0 ≤ i ∧ i < alen P t ∧ (aggB P (P.elem t) = true ∨ i.toNat * esz P t < cs.size))) ∧
    (∀ (P : Program), ∀ t l h s, slV P t l h (.string s) = .string (s.extract (lo l).toNat (hi h s.size).toNat)) ∧
    (∀ (P : Program), ∀ t l h s, slOk P t l h (.string s) = (tag P t = .str ∧ ixIs l ∧ ixIs h ∧ 0 ≤ lo l ∧ lo l ≤ hi h s.size ∧ hi h s.size ≤ s.size)) ∧
    (∀ (P : Program), ∀ t l h (s : Sl), slV P t l h s.v = Sl.v ⟨if s.cap = (lo l).toNat then s.a else s.a.map (·.add ((lo l).toNat * esz P t)), (hi h s.len).toNat - (lo l).toNat, s.cap - (lo l).toNat⟩) ∧
    (∀ (P : Program), ∀ t l h (s : Sl), slOk P t l h s.v = (isSlc P t = true ∧ ixIs l ∧ ixIs h ∧ 0 ≤ lo l ∧ lo l ≤ hi h s.len ∧ hi h s.len ≤ s.cap)) ∧
    (∀ k n, ixIs (some (.int k n)) = True) ∧
    (ixIs none = True) ∧
    (∀ k n, lo (some (.int k n)) = n) ∧
    (lo none = 0) ∧
    (∀ k n d, hi (some (.int k n)) d = n) ∧
    (∀ d, hi none d = d) ∧
    (∀ (P : Program), ∀ d k n, cvV P d (.int k n) = match tag P d with | .int k => .int k (k.wrap n) | _ => undef) ∧
    (∀ (P : Program), ∀ d s, cvV P d (.string s) = .string s) ∧
    (∀ (P : Program), ∀ s d k n, cvOk P s d (.int k n) = ((P.underlying s).isSome = true ∧ (match tag P d with | .int _ => True | _ => False))) ∧
    (∀ (P : Program), ∀ s d x, cvOk P s d (.string x) = (tag P s = .str ∧ tag P d = .str)) ∧
    (∀ i vs, exV i (.tuple vs) = vs.getD i undef) ∧
    (∀ i vs, exOk i (.tuple vs) = (i < vs.size)) ∧
    (∀ a, ncOk (.pointer (some a)) = True) ∧
    (∀ k a c, ncOk (.func (.func k) a c) = True) ∧
    (∀ (P : Program), ∀ t s, lenV P t (.string s) = .int .i64 s.size) ∧
    (∀ (P : Program), ∀ t (s : Sl), lenV P t s.v = .int .i64 s.len) ∧
    (∀ (P : Program), ∀ t s, lenOk P t (.string s) = (tag P t = .str)) ∧
    (∀ (P : Program), ∀ t (s : Sl), lenOk P t s.v = (tag P t = .slice)) ∧
    (∀ (s : Sl), capV s.v = .int .i64 s.cap) ∧
    (∀ (P : Program), ∀ t (s : Sl), capOk P t s.v = (tag P t = .slice)) ∧
    (∀ (P : Program), ∀ w R k a b args, callE P (.func (.func k) a b) args w R = (hasBody P k = true ∧ Calls P k (a ++ args ++ b) w R)) ∧
    (∀ (c a b : Bool), (if c = true then Value.bool a else Value.bool b) = .bool (bif c then a else b)) ∧
    (∀ a n c, Value.slice a n c = Sl.v ⟨a, n, c⟩) := by
  (repeat' apply And.intro) <;> intros <;> first | rfl | (simp [binOk, Sl.v]; done) | (simp [binV, Sl.v, eqV]; done) | (rename_i c a b; cases c <;> rfl)

def cndG (f : F) (g : Nat → Bool) (want : Bool) : Option Nat → Bool
  | some d => g d && isWord (f d) want
  | none => false
/-- A guard's condition. -/
theorem vcs5 :
    (∀ (all : List Oper), ∀ (f : F), ∀ (g : Nat → Bool), ∀ d op ty pos aft, cnd all f g ⟨d, op, ty, pos, aft, none⟩ = true) ∧
    (∀ (all : List Oper), ∀ (f : F), ∀ (g : Nat → Bool), ∀ d op ty pos aft j want, cnd all f g ⟨d, op, ty, pos, aft, some (j, want)⟩ = match gslot all j with | some d => g d && isWord (f d) want | none => false) ∧
    (∀ b want, isWord (.bool b) want = (b == want)) ∧
    (∀ t, gT t = true) ∧
    (∀ (g : Nat → Bool), ∀ d b i, updG g (some d) b i = if i = d then b else g i) ∧
    (∀ (g : Nat → Bool), ∀ b, updG g none b = g) ∧
    (∀ (g : Nat → Bool), ∀ c, readsOk g c [] = True) ∧
    (∀ (g : Nat → Bool), ∀ c t r, readsOk g c (.tmp t :: r) = ((c = true → g t = true) ∧ readsOk g c r)) ∧
    (∀ (g : Nat → Bool), ∀ c t r, readsOk g c (.const t :: r) = readsOk g c r) ∧
    (∀ (g : Nat → Bool), ∀ c t r, readsOk g c (.func t :: r) = readsOk g c r) ∧
    (∀ (g : Nat → Bool), ∀ c t r, readsOk g c (.global t :: r) = readsOk g c r) ∧
    (∀ n d, dstOk n (some d) = (d < n)) ∧
    (∀ n, dstOk n none = True) := by
  (repeat' apply And.intro) <;> intros <;> first | rfl | (simp only [cnd, cndG]; split <;> rfl)

theorem readsF (f : F) (g : Nat → Bool) (c : Bool) :
    (∀ x a b, readsFor f g c (.pick x a b) = (readsOk g c [x] ∧ (c = true → toB (ev f x) = true → readsOk g true [a]) ∧ (c = true → toB (ev f x) = false → readsOk g true [b]))) ∧
    (∀ x, readsFor f g c (.move x) = readsOk g c [x]) ∧ (∀ x, readsFor f g c (.assign x) = readsOk g c [x]) ∧
    (∀ op t x y t', readsFor f g c (.binOp op t x y t') = readsOk g c [x, y]) ∧ (∀ op t x, readsFor f g c (.unOp op t x) = readsOk g c [x]) ∧
    (∀ t x i, readsFor f g c (.fieldAddr t x i) = readsOk g c [x]) ∧ (∀ t x i, readsFor f g c (.field t x i) = readsOk g c [x]) ∧ (∀ x, readsFor f g c (.nilCheck x) = readsOk g c [x]) ∧
    (∀ t x y, readsFor f g c (.indexAddr t x y) = readsOk g c [x, y]) ∧ (∀ t x y, readsFor f g c (.index t x y) = readsOk g c [x, y]) ∧
    (∀ t x y, readsFor f g c (.convert t x y) = readsOk g c [y]) ∧ (∀ x i, readsFor f g c (.extract x i) = readsOk g c [x]) ∧
    (∀ t x l h, readsFor f g c (.slice t x (some l) (some h) none) = readsOk g c [x, l, h]) ∧ (∀ t x l, readsFor f g c (.slice t x (some l) none none) = readsOk g c [x, l]) ∧ (∀ t x h, readsFor f g c (.slice t x none (some h) none) = readsOk g c [x, h]) ∧
    (∀ x ts, readsFor f g c (.call ⟨.builtin .len, #[x], ts⟩) = readsOk g c [x]) ∧ (∀ x ts, readsFor f g c (.call ⟨.builtin .cap, #[x], ts⟩) = readsOk g c [x]) := by
  (repeat' apply And.intro) <;> intros <;> first | rfl | (simp [readsFor, Op.operands, Call.operands]; done)

theorem vcs6 :
    (∀ (f : F) (g : Nat → Bool) want d, cndG f g want (some d) = (g d && isWord (f d) want)) ∧
    (∀ (o : Oper) (r : List Oper), gslot (o :: r) 0 = o.dst) ∧
    (∀ (o : Oper) (r : List Oper) (j : Nat), gslot (o :: r) (j + 1) = gslot r j) ∧
    (∀ c r (n : Nat) (v : Value) (d : Nat) (f : F), (if c = true then upd n f d v else r) = (if c = true then upd n f d v else r)) := by
  (repeat' apply And.intro) <;> intros <;> first | rfl

/-- Which operations turn no memory. -/
theorem pures :
    (∀ (P : Program), ∀ x, isPure P (.move x) = true) ∧
    (∀ (P : Program), ∀ x, isPure P (.assign x) = true) ∧
    (∀ (P : Program), ∀ a b c, isPure P (.pick a b c) = true) ∧
    (∀ (P : Program), ∀ a b c, isPure P (.unOp a b c) = true) ∧
    (∀ (P : Program), ∀ a b c, isPure P (.indexAddr a b c) = true) ∧
    (∀ (P : Program), ∀ a b c, isPure P (.index a b c) = true) ∧
    (∀ (P : Program), ∀ x, isPure P (.nilCheck x) = true) ∧
    (∀ (P : Program), ∀ a b, isPure P (.extract a b) = true) ∧
    (∀ (P : Program), ∀ a b c, isPure P (.makeFunc a b c) = true) ∧
    (∀ (P : Program), ∀ s x i, isPure P (.fieldAddr s x i) = fldOk P s i) ∧
    (∀ (P : Program), ∀ s x i, isPure P (.field s x i) = fldOk P s i) ∧
    (∀ (P : Program), ∀ op t x y t', isPure P (.binOp op t x y t') = purT (tag P t) x y) ∧
    (∀ (P : Program), ∀ t x l h, isPure P (.slice t x l h none) = true) ∧
    (∀ (P : Program), ∀ t x l h m, isPure P (.slice t x l h (some m)) = false) ∧
    (∀ (P : Program), ∀ s d x, isPure P (.convert s d x) = purC (tag P s) (tag P d)) ∧
    (∀ (P : Program), ∀ xs t, isPure P (.call ⟨.builtin .len, xs, #[t]⟩) = purL (tag P t)) ∧
    (∀ (P : Program), ∀ xs t, isPure P (.call ⟨.builtin .cap, xs, #[t]⟩) = purK (tag P t)) ∧
    (∀ (P : Program), ∀ t ps, isPure P (.build t ps) = (bldOk P t && ps.toList.all fun p => decide (bldIx P t p.1))) ∧
    (∀ (P : Program), ∀ t a, isPure P (.load t a) = false) ∧
    (∀ (P : Program), ∀ t a b, isPure P (.store t a b) = false) ∧
    (∀ (P : Program), ∀ t, isPure P (.alloc t) = false) ∧
    (∀ (P : Program), ∀ t a, isPure P (.box t a) = false) ∧
    (∀ (P : Program), ∀ t n a, isPure P (.buildSlice t n a) = false) ∧
    (∀ (P : Program), ∀ f a b, isPure P (.call ⟨.value f, a, b⟩) = false) ∧
    (∀ (P : Program), ∀ a b, isPure P (.call ⟨.builtin .append, a, b⟩) = false) ∧
    (∀ (P : Program), ∀ a b, isPure P (.call ⟨.builtin .copy, a, b⟩) = false) ∧
    (∀ (P : Program), ∀ a b, isPure P (.call ⟨.builtin .max, a, b⟩) = false) ∧
    (∀ (P : Program), ∀ a b, isPure P (.call ⟨.builtin .min, a, b⟩) = false) ∧
    (∀ (P : Program), ∀ a b, isPure P (.call ⟨.builtin .delete, a, b⟩) = false) ∧
    (∀ (P : Program), ∀ a b, isPure P (.call ⟨.builtin .clear, a, b⟩) = false) ∧
    (∀ (P : Program), ∀ a b, isPure P (.call ⟨.builtin .unsafeString, a, b⟩) = false) ∧
    (∀ (P : Program), ∀ a b, isPure P (.call ⟨.builtin .unsafeSliceData, a, b⟩) = false) ∧
    (∀ (P : Program), ∀ a b, isPure P (.makeMap a b) = false) ∧
    (∀ (P : Program), ∀ a b c, isPure P (.makeSlice a b c) = false) ∧
    (∀ (P : Program), ∀ a b c d, isPure P (.lookup a b c d) = false) ∧
    (∀ (P : Program), ∀ a b c d, isPure P (.mapUpdate a b c d) = false) ∧
    (∀ (P : Program), ∀ a b c d, isPure P (.insert a b c d) = false) ∧
    (∀ (P : Program), ∀ a b, isPure P (.range a b) = false) ∧
    (∀ (P : Program), ∀ a b, isPure P (.next a b) = false) ∧
    (∀ (P : Program), ∀ a b, isPure P (.makeInterface a b) = false) ∧
    (∀ (P : Program), ∀ a, isPure P (.panic a) = false) ∧
    (∀ (P : Program), ∀ a b c, isPure P (.mapEntry a b c) = false) ∧
    (∀ (P : Program), ∀ a b c d, isPure P (.entryStore a b c d) = false) ∧
    (∀ (P : Program), ∀ a, isPure P (.entry a) = false) ∧
    (∀ k x y, purT (.int k) x y = true) ∧
    (∀ x y, purT .str x y = true) ∧
    (∀ x y, purT .bool x y = true) ∧
    (∀ x y, purT .slice x y = true) ∧
    (∀ x y, purT .map x y = true) ∧
    (∀ x y, purT .func x y = true) ∧
    (∀ x y, purT .ptr x y = (isConst x || isConst y)) ∧
    (∀ x y, purT .other x y = false) ∧
    (∀ x y, purT .struct x y = false) ∧
    (∀ x y, purT .arr x y = false) ∧
    (∀ j k, purC (.int j) (.int k) = true) ∧
    (purC .str .str = true) ∧
    (purC .str .slice = false) ∧
    (purC .slice .str = false) ∧
    (∀ k, purC (.int k) .str = false) ∧
    (purL .str = true) ∧
    (purL .slice = true) ∧
    (purL .arr = true) ∧
    (purL .map = false) ∧
    (purK .slice = true) ∧
    (∀ v, isConst (.const v) = true) ∧
    (∀ t, isConst (.tmp t) = false) := by
  (repeat' apply And.intro) <;> intros <;> first | rfl | (unfold isPure; (repeat' split) <;> simp_all [purT, purC, purL, purK])

/-- Numbers: what an int's operation yields, and asks. -/
theorem ints :
    (∀ k a b, intV .add k a b = .int k (k.wrap (a + b))) ∧ (∀ k a b, intV .sub k a b = .int k (k.wrap (a - b))) ∧ (∀ k a b, intV .mul k a b = .int k (k.wrap (a * b))) ∧
    (∀ k a b, intV .quo k a b = .int k (k.wrap (a.tdiv b))) ∧ (∀ k a b, intV .rem k a b = .int k (a.tmod b)) ∧
    (∀ k a b, intV .and k a b = .int k (bits .and k a b)) ∧ (∀ k a b, intV .or k a b = .int k (bits .or k a b)) ∧ (∀ k a b, intV .xor k a b = .int k (bits .xor k a b)) ∧ (∀ k a b, intV .andNot k a b = .int k (bits .andNot k a b)) ∧
    (∀ k a b, intV .shl k a b = .int k (k.wrap (a * 2 ^ (min b.toNat k.bits)))) ∧ (∀ k a b, intV .shr k a b = .int k (a.fdiv (2 ^ (min b.toNat k.bits)))) ∧
    (∀ k a b, intV .eql k a b = .bool (a == b)) ∧ (∀ k a b, intV .neq k a b = .bool (a != b)) ∧ (∀ k a b, intV .lss k a b = .bool (decide (a < b))) ∧ (∀ k a b, intV .leq k a b = .bool (decide (a ≤ b))) ∧
    (∀ k a b, intV .gtr k a b = .bool (decide (b < a))) ∧ (∀ k a b, intV .geq k a b = .bool (decide (b ≤ a))) ∧
    (∀ k b, intOk .add k k b = True) ∧ (∀ k b, intOk .sub k k b = True) ∧ (∀ k b, intOk .mul k k b = True) ∧ (∀ k b, intOk .and k k b = True) ∧ (∀ k b, intOk .or k k b = True) ∧ (∀ k b, intOk .xor k k b = True) ∧ (∀ k b, intOk .andNot k k b = True) ∧
    (∀ k b, intOk .eql k k b = True) ∧ (∀ k b, intOk .neq k k b = True) ∧ (∀ k b, intOk .lss k k b = True) ∧ (∀ k b, intOk .leq k k b = True) ∧ (∀ k b, intOk .gtr k k b = True) ∧ (∀ k b, intOk .geq k k b = True) ∧
    (∀ k b, intOk .quo k k b = (b ≠ 0)) ∧ (∀ k b, intOk .rem k k b = (b ≠ 0)) ∧ (∀ k k' b, intOk .shl k k' b = (0 ≤ b)) ∧ (∀ k k' b, intOk .shr k k' b = (0 ≤ b)) ∧
    (∀ a b, strV .add a b = .string (a ++ b)) ∧ (∀ a b, strV .eql a b = .bool (a.toList == b.toList)) ∧ (∀ a b, strV .neq a b = .bool (!(a.toList == b.toList))) ∧ (∀ a b, strV .lss a b = .bool (Op.bytesLess a.toList b.toList)) ∧
    (∀ a b, strOk .add a b = (a.size + b.size ≤ 9223372036854775807)) ∧ (∀ a b, strOk .eql a b = True) ∧ (∀ a b, strOk .neq a b = True) ∧ (∀ a b, strOk .lss a b = True) ∧
    (∀ P t l, fillV P t l [] = l) ∧ (∀ P t l i v r, fillV P t l ((i, v) :: r) = fillV P t (setCells l (bplace P t i).1 v.cells.toList) r) ∧
    (∀ P t n, fillOk P t n [] = True) ∧ (∀ P t n i v r, fillOk P t n ((i, v) :: r) = (v.cells.size = (bplace P t i).2 ∧ (bplace P t i).1 + v.cells.size ≤ n ∧ fillOk P t n r)) ∧
    (∀ l off, setCells l off [] = l) ∧ (∀ l off v r, setCells l off (v :: r) = setCells (l.set off v) (off + 1) r) ∧
    (∀ P t len k, fullOk P t len k [] = (k = len)) ∧ (∀ P t len k i v r, fullOk P t len k ((i, v) :: r) = (i = k ∧ v.cells.size = esz P t ∧ fullOk P t len (k + 1) r)) ∧
    (flatV [] = []) ∧ (∀ i v r, flatV ((i, v) :: r) = v.cells.toList ++ flatV r) ∧
    (∀ k n, (Value.int k n).cells = #[.int k n]) ∧ (∀ n, (Value.bool n).cells = #[.bool n]) ∧ (∀ n, (Value.string n).cells = #[.string n]) ∧ (∀ (n : Sl), n.v.cells = #[n.v]) ∧ (∀ n, (Value.pointer n).cells = #[.pointer n]) ∧ (∀ n, (Value.map n).cells = #[.map n]) ∧
    (∀ a b c, (Value.func a b c).cells = #[.func a b c]) ∧ (∀ n, (Value.agg n).cells = n) ∧
    (∀ v, tupled [v] = v) ∧ (∀ v u r, tupled (v :: u :: r) = .tuple (v :: u :: r).toArray) ∧ (tupled [] = .tuple #[]) := by
  (repeat' apply And.intro) <;> intros <;> first | rfl | (simp [intOk]; done)

end Go.Vc
namespace Go.Vc
open Go
theorem zero_ne_one_ : ((0 : Nat) = 1) = False := by simp
theorem one_ne_zero_ : ((1 : Nat) = 0) = False := by simp
theorem true_imp_ (p : Prop) : (True → p) = p := by simp
theorem false_imp_ (p : Prop) : (False → p) = True := by simp
theorem beq_true_ (b : Bool) : (b == true) = b := by cases b <;> rfl
theorem beq_false_ (b : Bool) : (b == false) = !b := by cases b <;> rfl
theorem fr0_0 (a : Value) (l : List Value) : fr0 (a :: l) 0 = a := rfl
theorem fr0_1 (a b : Value) (l : List Value) : fr0 (a :: b :: l) 1 = b := rfl
theorem fr0_2 (a b c : Value) (l : List Value) : fr0 (a :: b :: c :: l) 2 = c := rfl
theorem fr0_3 (a b c d : Value) (l : List Value) : fr0 (a :: b :: c :: d :: l) 3 = d := rfl
theorem fr0_4 (a b c d x : Value) (l : List Value) : fr0 (a :: b :: c :: d :: x :: l) 4 = x := rfl
theorem Array.getD_lit : (∀ (v : Value) (l : List Value), (List.toArray (v :: l)).getD 0 undef = v) ∧ (∀ (v u : Value) (l : List Value), (List.toArray (v :: u :: l)).getD 1 undef = u) ∧ (∀ (v u t : Value) (l : List Value), (List.toArray (v :: u :: t :: l)).getD 2 undef = t) ∧
    (∀ (v u t s : Value) (l : List Value), (List.toArray (v :: u :: t :: s :: l)).getD 3 undef = s) ∧ (∀ (v u t s r : Value) (l : List Value), (List.toArray (v :: u :: t :: s :: r :: l)).getD 4 undef = r) ∧ (∀ (v u t s r q : Value) (l : List Value), (List.toArray (v :: u :: t :: s :: r :: q :: l)).getD 5 undef = q) := by
  (repeat' apply And.intro) <;> intros <;> rfl
theorem conds : (∀ c x, (bif c then x else false) = (c && x)) ∧ (∀ c x, (bif c then true else x) = (c || x)) ∧ (∀ c, (bif c then false else true) = !c) := by
  (repeat' apply And.intro) <;> intro c <;> cases c <;> intros <;> rfl
theorem Array.size_lit (l : List Value) : (List.toArray l).size = l.length := by simp
theorem loads (P : Program) (t : TypeId) (p : Value) (w : World) (K : Value → Prop) : Loads P t p w K = exCells (cls P 8 t) fun cs => (∃ a, p = .pointer (some a) ∧ rowAt w a cs) ∧ K (mk1 (aggB P t) cs) := rfl
theorem blds : (∀ (P : Program) (ρ : Operand → Value) t ps, okOf P ρ (.build t ps) = fillOk P t (zl P t).length (ps.toList.map fun p => (p.1, ρ p.2))) ∧
    (∀ (P : Program) (ρ : Operand → Value) t ps, valOf P ρ (.build t ps) = .agg (fillV P t (zl P t) (ps.toList.map fun p => (p.1, ρ p.2))).toArray) := ⟨fun _ _ _ _ => rfl, fun _ _ _ _ => rfl⟩
end Go.Vc
