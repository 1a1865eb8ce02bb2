/- The walk itself: a function that steps from program point to program point and hands back what is left to show; and that this suffices. Nothing of any program stands here. -/
import Derived.Test.YtcjdbmcklemkkaaDoorVcPure
import Derived.Orders
namespace Go.Vc
open Go
set_option linter.unusedSimpArgs false

/-! ### typed values -/
/-- What one cell of memory may hold. -/
inductive Cl | int (k : IntKind) | bool | str | slice | ptr | map | any
  deriving DecidableEq

def clOf (P : Program) (t : TypeId) : Cl :=
  match P.underlying t with
  | some (.int k) => .int k
  | some .bool => .bool
  | some .string => .str
  | some (.slice _) => .slice
  | some (.pointer _) => .ptr
  | some (.map _ _) => .map
  | _ => .any

/-- The cells of a type's value, one after the other. -/
def cls (P : Program) : Nat → TypeId → List Cl
  | 0, _ => []
  | d + 1, t =>
    match P.underlying t with
    | some (.struct fs) => fs.toList.flatMap fun f => cls P d f.type
    | some (.array n e) => (List.replicate n (cls P d e)).flatten
    | _ => [clOf P t]

/-- A type's shape: one value (an aggregate or not), or several. -/
inductive Shp | one (agg : Bool) (cs : List Cl) | tup (l : List (Bool × List Cl))
def shp (P : Program) (t : TypeId) : Shp :=
  match P.underlying t with
  | some (.tuple ts) => .tup (ts.toList.map fun t => (aggB P t, cls P 8 t))
  | _ => .one (aggB P t) (cls P 8 t)
/-- A type's own shape, as one value. -/
def shp1 (P : Program) (t : TypeId) : Bool × List Cl := (aggB P t, cls P 8 t)

/-- For some cells of these kinds. -/
def exCells : List Cl → (List Value → Prop) → Prop
  | [], K => K []
  | .int k :: r, K => ∃ n : Int, exCells r fun l => K (.int k n :: l)
  | .bool :: r, K => ∃ b : Bool, exCells r fun l => K (.bool b :: l)
  | .str :: r, K => ∃ s : ByteArray, exCells r fun l => K (.string s :: l)
  | .slice :: r, K => ∃ s : Sl, exCells r fun l => K (s.v :: l)
  | .ptr :: r, K => ∃ p : Option Addr, exCells r fun l => K (.pointer p :: l)
  | .map :: r, K => ∃ p : Option Nat, exCells r fun l => K (.map p :: l)
  | .any :: r, K => ∃ v : Value, exCells r fun l => K (v :: l)
theorem exCells_out : ∀ (l : List Cl) (K : List Value → Prop), exCells l K → ∃ cs, cs.length = l.length ∧ K cs
  | [], _, h => ⟨[], rfl, h⟩
  | .int _ :: r, _, ⟨_, h⟩ | .bool :: r, _, ⟨_, h⟩ | .str :: r, _, ⟨_, h⟩ | .slice :: r, _, ⟨_, h⟩ | .ptr :: r, _, ⟨_, h⟩ | .map :: r, _, ⟨_, h⟩ | .any :: r, _, ⟨_, h⟩ =>
    let ⟨cs, hl, hk⟩ := exCells_out r _ h; ⟨_, by simp [hl], hk⟩

def mk1 (agg : Bool) (l : List Value) : Value := if agg = true then .agg l.toArray else l.headD undef
def exVal (b : Bool) (cs : List Cl) (K : Value → Prop) : Prop := exCells cs fun l => K (mk1 b l)
def exTup : List (Bool × List Cl) → (List Value → Prop) → Prop
  | [], K => K []
  | (b, cs) :: r, K => exVal b cs fun v => exTup r fun l => K (v :: l)
def exShp : Shp → (Value → Prop) → Prop
  | .one b cs, K => exVal b cs K
  | .tup l, K => exTup l fun vs => K (.tuple vs.toArray)
theorem exVal_out {b : Bool} {cs : List Cl} {K : Value → Prop} (h : exVal b cs K) : ∃ v, K v := let ⟨_, _, h⟩ := exCells_out _ _ h; ⟨_, h⟩
theorem exTup_out : ∀ {l : List (Bool × List Cl)} {K : List Value → Prop}, exTup l K → ∃ vs, K vs
  | [], _, h => ⟨_, h⟩
  | (_, _) :: _, _, h => let ⟨_, h⟩ := exVal_out h; let ⟨_, h⟩ := exTup_out h; ⟨_, h⟩
theorem exShp_out {s : Shp} {K : Value → Prop} (h : exShp s K) : ∃ v, K v := by
  cases s with
  | one b cs => exact exVal_out h
  | tup l => let ⟨_, h⟩ := exTup_out h; exact ⟨_, h⟩

/-! ### memory -/
/-- These cells stand from a on. -/
def rowAt (w : World) (a : Addr) (cs : List Value) : Prop := ∀ i v, cs[i]? = some v → w.cell? (a.add i) = some v

theorem run_loadCellsFrom {P : Program} (w : World) (a : Addr) : ∀ (cs : List Value) (i : Nat) (acc : Array Value), (∀ j v, cs[j]? = some v → w.cell? (a.add (i + j)) = some v) →
    (loadCellsFrom a i cs.length acc).run P w = .ok (acc ++ cs.toArray) w
  | [], i, acc, _ => by simp [loadCellsFrom]
  | c :: cs, i, acc, h => by
    have h0 := h 0 c rfl
    simp only [Nat.add_zero] at h0
    simp only [loadCellsFrom, List.length_cons, Sem.run_bind, run_load, h0, Result.andThen_ok]
    rw [run_loadCellsFrom w a cs (i + 1) (acc.push c) (fun j v hj => by have := h (j + 1) v (by simpa using hj); rwa [show i + 1 + j = i + (j + 1) by omega])]
    simp

/-- A load. -/
def Loads (P : Program) (t : TypeId) (p : Value) (w : World) (K : Value → Prop) : Prop :=
  exCells (cls P 8 t) fun cs => (∃ a, p = .pointer (some a) ∧ rowAt w a cs) ∧ K (mk1 (aggB P t) cs)

/-- Its side condition: the type is there, and its shape is as large as it is. -/
def ldOk (P : Program) (t : TypeId) : Bool := (P.underlying t).isSome && (P.info? t).isSome && decide ((cls P 8 t).length = P.cellsOf t) && (aggB P t || decide ((cls P 8 t).length = 1))

theorem run_loadOp {P : Program} {t : TypeId} {a : Addr} {cs : List Value} (w : World) (h : ldOk P t = true) (hl : cs.length = (cls P 8 t).length) (hr : rowAt w a cs) :
    (Instr.loadAt t (.pointer (some a))).run P w = .ok (mk1 (aggB P t) cs) w := by
  simp only [ldOk, Bool.and_eq_true, decide_eq_true_eq, Bool.or_eq_true] at h
  obtain ⟨⟨⟨h1, h2⟩, h3⟩, h4⟩ := h
  simp only [Instr.loadAt, Instr.sureAddr, Sem.run_bind, Sem.run_pure, Result.andThen_ok, loadVar, run_isAgg w h1]
  cases hb : aggB P t with
  | true =>
    have k := run_loadCellsFrom (P := P) w a cs 0 #[] (fun j v hj => by rw [Nat.zero_add]; exact hr j v hj)
    rw [hl, h3] at k
    simp [run_sizeOf w h2, loadCells, k, mk1]
  | false =>
    have h5 : (cls P 8 t).length = 1 := by rcases h4 with h4 | h4; · rw [hb] at h4; cases h4
                                           · exact h4
    rw [h5] at hl
    match cs, hl with
    | [v], _ =>
      have h6 := hr 0 v rfl
      simp only [Addr.add_zero'] at h6
      simp [h6, mk1]

/-! ### the points -/
inductive St
  | code (todo : List Item)
  | ops (all rest : List Oper) (todo : List Item)
  | opsG (all rest : List Oper) (todo : List Item) (g : Nat → Bool)

/-- The frame that truly stands where slots were written under guards. -/
def real (g : Nat → Bool) (f : F) : F := fun t => if g t = true then f t else undef

/-- What is shown of a point. -/
def Sem (e : Env) (R : Ending → World → Prop) : St → F → World → Prop
  | .code todo, f, w => At e R todo f w
  | .ops all rest todo, f, w => ∀ a, Fr e.n e.ds f a → wpListIn e.F 0 e.P all.toArray (fun x a' w' => x = .normal ∧ ∃ f', Fr e.n e.ds f' a' ∧ At e R todo f' w') rest a w
  | .opsG all rest todo g, f, w => ∀ a, Fr e.n e.ds (real g f) a → wpListIn e.F 0 e.P all.toArray (fun x a' w' => x = .normal ∧ ∃ f', Fr e.n e.ds f' a' ∧ At e R todo f' w') rest a w

/-- A function with a body, to be entered. -/
def hasBody (P : Program) (k : FuncId) : Bool :=
  match P.funcs[k]? with
  | some fn => fn.body.isSome && !(fn.name == "runtime.NumGoroutine")
  | none => false

/-- A round of a range over a function. -/
def yieldE (P : Program) (l : Nat) (args : Array Value) (w : World) (R : Ending → World → Prop) : Prop :=
  ∃ r : Loop, w.heap[l]? = some (.loop r) ∧ args.size = r.params.size ∧
    RoundIn Fence.wide 0 P l r.fn ((r.params.zip args).foldl (fun tmps (t, a) => tmps.setIfInBounds t a) r.tmps) r.assign r.body w R
/-- A call of a function value. -/
def callE (P : Program) (fv : Value) (args : Array Value) (w : World) (R : Ending → World → Prop) : Prop :=
  match fv with
  | .func (.func k) first captured => hasBody P k = true ∧ Calls P k (first ++ args ++ captured) w R
  | .func (.yield l) first _ => yieldE P l (first ++ args) w R
  | _ => False

/-- A new variable's cells, all zero. -/
def zcs (P : Program) (t : TypeId) : Array Value := (((P.info? t).bind (·.zero)).map Value.cells).getD #[]

/-- A slice literal's elements, all of them, one after the other. -/
def fullOk (P : Program) (t : TypeId) (len : Nat) : Nat → List (Nat × Value) → Prop
  | k, [] => k = len
  | k, (i, v) :: r => i = k ∧ v.cells.size = esz P t ∧ fullOk P t len (k + 1) r
def flatV : List (Nat × Value) → List Value
  | [] => []
  | (_, v) :: r => v.cells.toList ++ flatV r

theorem setCells_mid : ∀ (vs A B : List Value), vs.length ≤ B.length → setCells (A ++ B) A.length vs = A ++ vs ++ B.drop vs.length
  | [], A, B, _ => by simp [setCells]
  | v :: vs, A, [], h => by simp at h
  | v :: vs, A, b :: B, h => by
    have ih := setCells_mid vs (A ++ [v]) B (by simpa using h)
    simp only [List.length_append, List.length_cons, List.length_nil, Nat.zero_add, List.append_assoc, List.cons_append, List.nil_append] at ih
    simp only [setCells, List.length_cons, List.drop_succ_cons]
    rw [show (A ++ b :: B).set A.length v = A ++ v :: B by simp]
    rw [ih]; simp

theorem fill_full {P : Program} {t : TypeId} {len : Nat} : ∀ (parts : List (Nat × Value)) (k : Nat) (A B : List Value), fullOk P t len k parts → A.length = k * esz P t → (A ++ B).length = len * esz P t →
    Instr.fill (fun i => some (i * esz P t, esz P t)) (A ++ B).toArray parts = some (A ++ flatV parts).toArray
  | [], k, A, B, hk, ha, hab => by
    simp only [fullOk] at hk
    subst hk
    have : B = [] := List.eq_nil_of_length_eq_zero (by simp at hab; omega)
    subst this
    simp [Instr.fill, flatV]
  | (i, v) :: r, k, A, B, hk, ha, hab => by
    obtain ⟨rfl, h2, h3⟩ := hk
    have hlt : i + 1 ≤ len := by
      have key : ∀ (r : List (Nat × Value)) (k : Nat), fullOk P t len k r → k ≤ len := by
        intro r
        induction r with
        | nil => intro k h; simp only [fullOk] at h; omega
        | cons x r ih => intro k h; obtain ⟨j, u⟩ := x; have := ih _ h.2.2; omega
      exact key r _ h3
    have hmul : (i + 1) * esz P t ≤ len * esz P t := Nat.mul_le_mul_right _ hlt
    have hsz : v.cells.toList.length = esz P t := by simpa using h2
    have hB : esz P t ≤ B.length := by
      simp only [List.length_append] at hab
      rw [Nat.add_mul, Nat.one_mul] at hmul
      omega
    unfold Instr.fill
    simp only
    rw [if_neg (by
      simp only [List.size_toArray, ne_eq, Bool.or_eq_true, bne_iff_ne, decide_eq_true_eq, not_or, List.length_append]
      refine ⟨by simp [h2], ?_⟩
      rw [← ha, h2]; simp only [List.length_append] at hab; omega)]
    have h5 : Array.foldl (fun cs x => cs.setIfInBounds (i * esz P t + x.2) x.1) (A ++ B).toArray v.cells.zipIdx = (A ++ v.cells.toList ++ B.drop (esz P t)).toArray := by
      have := zipIdx_setCells v.cells.toList (A ++ B).toArray (i * esz P t) 0
      simp only [Nat.add_zero] at this
      rw [← Array.foldl_toList, Array.toList_zipIdx]
      rw [← ha] at this ⊢
      refine this.trans ?_
      rw [setCells_mid _ _ _ (by omega), hsz]
    rw [h5]
    have ih := fill_full r (i + 1) (A ++ v.cells.toList) (B.drop (esz P t)) h3 (by rw [List.length_append, ha, hsz, Nat.add_mul, Nat.one_mul]) (by simp only [List.length_append, List.length_drop, hsz] at hab ⊢; omega)
    rw [ih]
    simp [flatV]

theorem run_buildSliceOp {P : Program} {t : TypeId} {len : Nat} {parts : Array (Nat × Value)} (w : World) (h : isSlc P t = true) (hz : zOk P (P.elem t) = true) (hl : len * esz P t ≤ 2 ^ 24) (hf : fullOk P t len 0 parts.toList) :
    (Instr.buildSlice t len parts).run P w = .ok (.slice (some ⟨w.heap.size, 0, none⟩) len len) (w.alloc (.cells (flatV parts.toList).toArray (P.elem t))) := by
  obtain ⟨h1, h2⟩ := isSlc_spec h
  obtain ⟨z, hz⟩ := Option.isSome_iff_exists.1 hz
  obtain ⟨it, hit, hz⟩ := Option.bind_eq_some_iff.1 hz
  unfold Instr.buildSlice
  simp only [Sem.run_bind, run_underlying h1, Result.andThen_ok, run_sizeOf w h2]
  rw [if_neg (by unfold esz at hl; omega)]
  have key : ∀ (Z : Array Value), (Z.size = len * P.cellsOf (P.elem t)) → Instr.fill (fun i => some (i * P.cellsOf (P.elem t), P.cellsOf (P.elem t))) Z parts.toList = some (flatV parts.toList).toArray := by
    intro Z hZ
    have := fill_full (P := P) (t := t) (len := len) parts.toList 0 [] Z.toList hf (by simp) (by simpa [esz] using hZ)
    simpa [esz] using this
  by_cases h0 : len * P.cellsOf (P.elem t) = 0
  · simp only [Sem.run_bind, h0, if_true, Sem.run_pure, Result.andThen_ok]
    rw [key _ (by simp [h0])]
    simp [newRow]
  · simp only [Sem.run_bind, h0, if_false, Sem.run_pure, Result.andThen_ok, zeroValue, typeInfo, hit, hz, run_program]
    rw [key _ (by simp)]
    simp [newRow]

/-- One that may turn memory. -/
def eff (e : Env) (o : Oper) (ρ : Operand → Value) (w : World) (K : Value → World → Prop) : Prop :=
  match o.op with
  | .load t a => ldOk e.P t = true ∧ Loads e.P t (ρ a) w fun v => K v w
  | .alloc t => zOk e.P t = true ∧ K (.pointer (some ⟨w.heap.size, 0, none⟩)) (w.alloc (.cells (zcs e.P t) t))
  | .buildSlice t len parts => isSlc e.P t = true ∧ zOk e.P (e.P.elem t) = true ∧ len * esz e.P t ≤ 2 ^ 24 ∧ fullOk e.P t len 0 (parts.toList.map fun p => (p.1, ρ p.2)) ∧
      K (.slice (some ⟨w.heap.size, 0, none⟩) len len) (w.alloc (.cells (flatV (parts.toList.map fun p => (p.1, ρ p.2))).toArray (e.P.elem t)))
  | .box t x => K (.pointer (some ⟨w.heap.size, 0, none⟩)) (w.alloc (.cells (ρ x).cells t))
  | .store t a x => ∃ w', (Instr.storeAt t (ρ a) (ρ x)).run e.P w = .ok () w' ∧ K undef w'
  | .call { callee := .value f, args := xs, argTypes := _ } => callE e.P (ρ f) (xs.map ρ) w fun x w' => exShp (shp e.P o.type) fun v => x = .returned v ∧ K v w'
  | .call { callee := .builtin b, args := xs, argTypes := ts } => exShp (shp e.P o.type) fun v => ∃ w', (builtin b ts o.type (xs.map fun | .const _ => true | _ => false) (xs.map ρ)).run e.P w = .ok (.value v) w' ∧ K v w'
  | .mapUpdate t m k x => ∃ w', (Instr.mapUpdate t (ρ m) (ρ k) (ρ x)).run e.P w = .ok () w' ∧ K undef w'
  | .insert t m k x => ∃ w', (Instr.mapUpdate t (ρ m) (ρ k) (ρ x)).run e.P w = .ok () w' ∧ K undef w'
  | .select _ _ => False
  | .defer _ => False
  | .range t x => ∃ v w', (Instr.range t (ρ x)).run e.P w = .ok v w' ∧ K v w'
  | .next x s => ∃ v w', (Instr.next (ρ x) s o.type).run e.P w = .ok v w' ∧ K v w'
  | _ => exShp (shp e.P o.type) fun v => ∃ w', (execOp ρ o).run e.P w = .ok (.value v) w' ∧ K v w'

/-- Is the guard's word the wanted one? -/
def isWord : Value → Bool → Bool
  | .bool b, want => b == want
  | _, _ => false
def gslot (all : List Oper) (j : Nat) : Option Nat := (all[j]?).bind (·.dst)
/-- The condition under which an operation is wanted. -/
def cnd (all : List Oper) (f : F) (g : Nat → Bool) (o : Oper) : Bool :=
  match o.guard with
  | none => true
  | some (j, want) => match gslot all j with
    | some d => g d && isWord (f d) want
    | none => false
def updG (g : Nat → Bool) (d : Option Nat) (b : Bool) : Nat → Bool :=
  match d with
  | some d => fun i => if i = d then b else g i
  | none => g
def gT : Nat → Bool := fun _ => true
/-- The slots that an operation reads stand where it is wanted. -/
def readsOk (g : Nat → Bool) (c : Bool) : List Operand → Prop
  | [] => True
  | .tmp t :: r => (c = true → g t = true) ∧ readsOk g c r
  | _ :: r => readsOk g c r

/-- The slots that an operation reads stand where it is wanted; of the two that one picks from, the one that it picks. -/
def readsFor (f : F) (g : Nat → Bool) (c : Bool) : Op → Prop
  | .pick x a b => readsOk g c [x] ∧ (c = true → toB (ev f x) = true → readsOk g true [a]) ∧ (c = true → toB (ev f x) = false → readsOk g true [b])
  | op => readsOk g c op.operands.toList

/-- A slot of the frame. -/
def dstOk (n : Nat) : Option Nat → Prop
  | some d => d < n
  | none => True

/-- The call's end: its results, read off the frame (and off memory). -/
def fin (e : Env) (R : Ending → World → Prop) (f : F) (w : World) : List ResultVar → List Value → Prop
  | [], acc => R (.returned (tupled acc.reverse)) w
  | .tmp t :: r, acc => fin e R f w r (f t :: acc)
  | .cell a t :: r, acc => ldOk e.P t = true ∧ Loads e.P t (f a) w fun v => fin e R f w r (v :: acc)

/-- The way to a block's end. -/
def vcX (K : List Item → Prop) (Z : Prop) (id : Nat) : List Item → Prop
  | [] => Z
  | .inBlock id' :: k => if id' = id then K k else vcX K Z id k
  | _ :: k => vcX K Z id k

/-- Where the call, or the round, ends (j: by what jump). -/
def endO (e : Env) (R : Ending → World → Prop) (j : Option Code) (f : F) (w : World) : Prop :=
  match e.round with
  | some l => ∃ v w', (Instr.endRound l j).run e.P w = .ok v w' ∧ R (.returned v) w'
  | none => match e.ds with
    | [] => fin e R f w e.res []
    | [d] => ∃ D w', d = mark D ∧ (Instr.takeDeferred D).run e.P w = .ok [] w' ∧ fin e R f w' e.res []
    | _ => False
/-- An exit that nothing catches. -/
def endX (e : Env) (R : Ending → World → Prop) (id : Nat) (f : F) (w : World) : Prop :=
  match e.round with
  | some _ => endO e R (some (.exit id)) f w
  | none => False

def vc (e : Env) (R : Ending → World → Prop) : Nat → St → F → World → Prop
  | 0, s, f, w => Sem e R s f w
  | _ + 1, .code [], f, w => endO e R none f w
  | m + 1, .code (.inBlock _ :: todo), f, w => vc e R m (.code todo) f w
  | m + 1, .code (.inScope _ :: todo), f, w => vc e R m (.code todo) f w
  | _ + 1, .code (.beginRound :: todo), f, w => Sem e R (.code (.beginRound :: todo)) f w
  | _ + 1, .code (.inLoop c :: todo), f, w => Sem e R (.code (.code c :: .inLoop c :: todo)) f w
  | m + 1, .code (.code c :: todo), f, w =>
    match c with
    | .skip | .label _ => vc e R m (.code todo) f w
    | .seq a b => vc e R m (.code (.code a :: .code b :: todo)) f w
    | .block id c => vc e R m (.code (.code c :: .inBlock id :: todo)) f w
    | .scope c => vc e R m (.code (.code c :: .inScope c :: todo)) f w
    | .loop c => Sem e R (.code (.code c :: .inLoop c :: todo)) f w
    | .region _ ops false => vc e R m (.ops ops.toList ops.toList todo) f w
    | .cond x a b => isB (ev f x) ∧ (if toB (ev f x) = true then vc e R m (.code (.code a :: todo)) f w else vc e R m (.code (.code b :: todo)) f w)
    | .exit id => vcX (fun k => vc e R m (.code k) f w) (endX e R id f w) id todo
    | .ret => endO e R (some .ret) f w
    | _ => Sem e R (.code (.code c :: todo)) f w
  | _ + 1, .code _, _, _ => False
  | m + 1, .ops _ [] todo, f, w => vc e R m (.code todo) f w
  | m + 1, .ops all (o :: rest) todo, f, w =>
    if o.guard.isSome = true then vc e R m (.opsG all (o :: rest) todo gT) f w
    else if isPure e.P o.op = true then okOf e.P (ev f) o.op ∧ vc e R m (.ops all rest todo) (updO e.n f o.dst (valOf e.P (ev f) o.op)) w
    else eff e o (ev f) w fun v w' => vc e R m (.ops all rest todo) (updO e.n f o.dst v) w'
  | m + 1, .opsG _ [] todo g, f, w => vc e R m (.code todo) (real g f) w
  | m + 1, .opsG all (o :: rest) todo g, f, w =>
    if isPure e.P o.op = true then dstOk e.n o.dst ∧ (cnd all f g o = true → okOf e.P (ev f) o.op) ∧ readsFor f g (cnd all f g o) o.op ∧ vc e R m (.opsG all rest todo (updG g o.dst (cnd all f g o))) (updO e.n f o.dst (valOf e.P (ev f) o.op)) w
    else dstOk e.n o.dst ∧ if cnd all f g o = true then readsOk g true o.op.operands.toList ∧ eff e o (ev f) w fun v w' => vc e R m (.opsG all rest todo (updG g o.dst true)) (updO e.n f o.dst v) w'
    else vc e R m (.opsG all rest todo g) (updO e.n f o.dst undef) w
section
variable {e : Env} {R : Ending → World → Prop}

theorem wpList_go {e : Env} {ops : Array Oper} {Q : Exit → Act → World → Prop} {a : Act} {w : World} {rest : List Oper} {o : Oper} (hw : Region.wanted o (yielded ops a.tmps) = true)
    (h : o.wpIn e.F 0 e.P a w (wpListIn e.F 0 e.P ops Q rest) Q) : wpListIn e.F 0 e.P ops Q (o :: rest) a w := by
  unfold wpListIn; rw [if_pos hw]; exact h
theorem wpList_no {e : Env} {ops : Array Oper} {Q : Exit → Act → World → Prop} {a : Act} {w : World} {rest : List Oper} {o : Oper} (hw : Region.wanted o (yielded ops a.tmps) = false)
    (h : wpListIn e.F 0 e.P ops Q rest (a.put o.dst undef) w) : wpListIn e.F 0 e.P ops Q (o :: rest) a w := by
  unfold wpListIn; rw [if_neg (by rw [hw]; decide)]; exact ⟨fun _ _ => trivial, h⟩
/-- An operation's run, whatever the frame. -/
theorem wpIn_of {e : Env} {o : Oper} (hnd : ∀ c, o.op ≠ .defer c) {a : Act} {w : World} {next : Act → World → Prop} {Q : Exit → Act → World → Prop} (h : o.uponIn e.F 0 e.P a next Q ((execOp a.eval o).run e.P w)) : o.wpIn e.F 0 e.P a w next Q :=
  ⟨fun _ _ => trivial, by rw [Oper.semAt_eq _ _ _ hnd]; exact h⟩
theorem pure_noDefer {P : Program} {op : Op} (h : isPure P op = true) : ∀ c, op ≠ .defer c := by
  intro c ho; rw [ho] at h; cases h
theorem noDepth {e : Env} {p : Prop} (h : e.F.depth.isSome = true) : p := by simp [Env.F, Fence.wide] at h
theorem callsR {e : Env} {n : Nat} {f : FuncId} {args : Array Value} {w : World} {R : Ending → World → Prop} (h : Calls e.P f args w R) : CallsIn e.F n e.P f args w R := (callsIn_wide (n := n)).2 h

theorem eff_noDefer {o : Oper} {ρ : Operand → Value} {w : World} {K : Value → World → Prop} (h : eff e o ρ w K) : ∀ c, o.op ≠ .defer c := by
  intro c ho
  unfold eff at h
  rw [ho] at h
  exact h

/-- What an operation's run comes to. -/
theorem eff_sound {o : Oper} {ρ : Operand → Value} {w : World} {K : Value → World → Prop} (h : eff e o ρ w K) {a : Act} (ha : execOp a.eval o = execOp ρ o) {next : Act → World → Prop} {Q : Exit → Act → World → Prop}
    (hK : ∀ v w', K v w' → next (a.put o.dst v) w') : o.wpIn e.F 0 e.P a w next Q := by
  refine wpIn_of (eff_noDefer h) ?_
  rw [ha]
  unfold eff at h
  split at h
  · rename_i t x ho
    obtain ⟨h1, h2⟩ := h
    obtain ⟨cs, hl, ⟨ad, hp, hr⟩, hk⟩ := exCells_out _ _ h2
    have := run_loadOp w h1 hl hr
    simp only [execOp, ho, Sem.run_bind, hp, this, Result.andThen_ok]
    exact hK _ _ hk
  · rename_i t ho
    obtain ⟨h1, h2⟩ := h
    obtain ⟨z, hz⟩ := Option.isSome_iff_exists.1 h1
    obtain ⟨i, hi, hz⟩ := Option.bind_eq_some_iff.1 hz
    have h3 : (Instr.alloc t true (.tuple #[])).run e.P w = .ok (.pointer (some ⟨w.heap.size, 0, none⟩)) (w.alloc (.cells (zcs e.P t) t)) := by
      simp [Instr.alloc, zeroValue, typeInfo, hi, hz, newVar, newRow, zcs]
    simp only [execOp, ho, Sem.run_bind, h3, Result.andThen_ok]
    exact hK _ _ h2
  · rename_i t len parts ho
    obtain ⟨h1, h2, h3, h4, h5⟩ := h
    have h6 := run_buildSliceOp (P := e.P) (t := t) (len := len) (parts := parts.map fun p => (p.1, ρ p.2)) w h1 h2 h3 (by simpa using h4)
    simp only [Array.toList_map] at h6
    simp only [execOp, ho, Sem.run_bind, h6, Result.andThen_ok]
    exact hK _ _ h5
  · rename_i t x ho
    have h3 : (Instr.box t (ρ x)).run e.P w = .ok (.pointer (some ⟨w.heap.size, 0, none⟩)) (w.alloc (.cells (ρ x).cells t)) := by
      simp [Instr.box, newVar, newRow]
    simp only [execOp, ho, Sem.run_bind, h3, Result.andThen_ok]
    exact hK _ _ h
  · rename_i t x y ho
    obtain ⟨w', h1, h2⟩ := h
    simp only [execOp, ho, Sem.run_bind, h1, Result.andThen_ok]
    exact hK _ _ h2
  · rename_i f xs ts ho
    unfold callE at h
    split at h
    · rename_i k first captured hf
      obtain ⟨hb, h1⟩ := h
      unfold hasBody at hb
      split at hb
      · rename_i fn hfn
        simp only [Bool.and_eq_true, Bool.not_eq_true'] at hb
        have hb2 : fn.body.isNone = false := by rw [← Option.not_isSome, hb.1]; rfl
        have hrun : (execOp ρ o).run e.P w = .ok (.enter k (first ++ xs.map ρ ++ captured)) w := by
          have hb3 : fn.name ≠ "runtime.NumGoroutine" := by simpa using hb.2
          have hb4 : fn.body ≠ none := by intro h0; rw [h0] at hb2; cases hb2
          simp [execOp, ho, resolve, hf, Deferred.ofValue, invoke, callFunc, hfn, hb3, hb4]
        rw [hrun]
        refine ⟨noDepth, callsR (h1.mono fun x w' hx => ?_)⟩
        obtain ⟨v, rfl, hk⟩ := exShp_out hx
        exact hK _ _ hk
      · cases hb
    · rename_i l first captured hf
      obtain ⟨r, hr, hsz, h1⟩ := h
      have hrun : (execOp ρ o).run e.P w = .ok (.round l r.fn ((r.params.zip (first ++ xs.map ρ)).foldl (fun tmps (t, a) => tmps.setIfInBounds t a) r.tmps) r.assign r.body) w := by
        have hyi : (Instr.yield l (first ++ xs.map ρ)).run e.P w = .ok (.round l r.fn ((r.params.zip (first ++ xs.map ρ)).foldl (fun tmps (t, a) => tmps.setIfInBounds t a) r.tmps) r.assign r.body) w := by
          have hgl : (Instr.getLoop l).run e.P w = .ok r w := by simp [Instr.getLoop, getObj, Sem.run, hr]
          simp only [Instr.yield, Sem.run_bind, hgl, Result.andThen_ok]
          rw [if_neg (by omega)]
          rfl
        have hgo : (execOp ρ o).run e.P w = (Instr.yield l (first ++ xs.map ρ)).run e.P w := by simp [execOp, ho, resolve, hf, Deferred.ofValue, invoke]
        rw [hgo, hyi]
      rw [hrun]
      refine ⟨noDepth, ?_⟩
      exact RoundIn.mono (F := Fence.wide) (n := 0) h1 fun x w' hx => by
        obtain ⟨v, rfl, hk⟩ := exShp_out hx
        exact hK _ _ hk
    · exact h.elim
  · rename_i b xs ts ho
    obtain ⟨v, w', h1, h2⟩ := exShp_out h
    have hrun : (execOp ρ o).run e.P w = .ok (.value v) w' := by
      simp only [execOp, ho, resolve, Sem.run_bind, Sem.run_pure, Result.andThen_ok, invoke]
      exact h1
    rw [hrun]; exact hK _ _ h2
  · rename_i t x y z ho
    obtain ⟨w', h1, h2⟩ := h
    simp only [execOp, ho, Sem.run_bind, h1, Result.andThen_ok]
    exact hK _ _ h2
  · rename_i t x y z ho
    obtain ⟨w', h1, h2⟩ := h
    simp only [execOp, ho, Sem.run_bind, h1, Result.andThen_ok]
    exact hK _ _ h2
  · exact h.elim
  · exact h.elim
  · rename_i x y ho
    obtain ⟨v, w', h1, h2⟩ := h
    simp only [execOp, ho, Sem.run_bind, h1, Result.andThen_ok]
    exact hK _ _ h2
  · rename_i x y ho
    obtain ⟨v, w', h1, h2⟩ := h
    simp only [execOp, ho, Sem.run_bind, h1, Result.andThen_ok]
    exact hK _ _ h2
  · obtain ⟨v, w', h1, h2⟩ := exShp_out h
    rw [h1]; exact hK _ _ h2

theorem real_gT (f : F) : real gT f = f := by funext t; simp [real, gT]

theorem real_upd {n : Nat} {g : Nat → Bool} {f : F} {d : Option Nat} {c : Bool} {v : Value} (hd : dstOk n d) :
    real (updG g d c) (updO n f d v) = updO n (real g f) d (if c = true then v else undef) := by
  cases d with
  | none => rfl
  | some d =>
    simp only [dstOk] at hd
    funext t
    simp only [real, updG, updO, upd, hd, and_true]
    by_cases h : t = d <;> simp [h]

theorem real_updU {n : Nat} {g : Nat → Bool} {f : F} {d : Option Nat} (hd : dstOk n d) :
    real g (updO n f d undef) = updO n (real g f) d undef := by
  cases d with
  | none => rfl
  | some d =>
    simp only [dstOk] at hd
    funext t
    simp only [real, updO, upd, hd, and_true]
    by_cases h : t = d <;> simp [h]

theorem readsOk_spec {g : Nat → Bool} {c : Bool} {f : F} (hc : c = true) : ∀ {l : List Operand}, readsOk g c l → ∀ x ∈ l, ev (real g f) x = ev f x
  | [], _, x, hx => by cases hx
  | y :: r, h, x, hx => by
    have hr : readsOk g c r := by cases y <;> first | exact h.2 | exact h
    rcases List.mem_cons.1 hx with rfl | hx
    · cases x <;> first | rfl | (simp only [ev, real, h.1 hc, if_true])
    · exact readsOk_spec hc hr x hx

theorem readsFor_spec {g : Nat → Bool} {f : F} {o : Oper} {w : World} {P : Program} {ρ : Operand → Value} (hρ : ρ = ev (real g f)) (hp : isPure P o.op = true) (h : readsFor f g true o.op) (hsel : ∀ cs b, o.op ≠ .select cs b) (hok : okOf P (ev f) o.op) :
    (execOp ρ o).run P w = (execOp (ev f) o).run P w := by
  subst hρ
  unfold readsFor at h
  split at h
  · rename_i x a b ho
    obtain ⟨h1, h2, h3⟩ := h
    have e1 : ev (real g f) x = ev f x := readsOk_spec rfl h1 x (by simp)
    rw [ho] at hok
    simp only [okOf] at hok
    have : ∃ c, ev f x = .bool c := by
      unfold isB at hok; split at hok
      · exact ⟨_, by assumption⟩
      · exact hok.elim
    obtain ⟨c, hc⟩ := this
    simp only [execOp, ho, e1, hc, asBool]
    cases c with
    | true =>
      have e2 : ev (real g f) a = ev f a := readsOk_spec rfl (h2 rfl (by rw [hc]; rfl)) a (by simp)
      simp [e2]
    | false =>
      have e2 : ev (real g f) b = ev f b := readsOk_spec rfl (h3 rfl (by rw [hc]; rfl)) b (by simp)
      simp [e2]
  · rw [execOp_congr o hsel (fun x hx => readsOk_spec rfl h x (by simpa using hx))]

theorem eff_noSel {o : Oper} {ρ : Operand → Value} {w : World} {K : Value → World → Prop} (h : eff e o ρ w K) : ∀ cs b, o.op ≠ .select cs b := by
  intro cs b ho
  unfold eff at h
  rw [ho] at h
  exact h
theorem pure_noSel {P : Program} {op : Op} (h : isPure P op = true) : ∀ cs b, op ≠ .select cs b := by
  intro cs b ho
  rw [ho] at h
  cases h

/-- The guard's word, as the machine takes it. -/
theorem wanted_cnd {all : List Oper} {n : Nat} {ds : List Deferred} {f : F} {g : Nat → Bool} {o : Oper} {a : Act} (ha : Fr n ds (real g f) a) : Region.wanted o (yielded all.toArray a.tmps) = cnd all f g o := by
  unfold Region.wanted cnd
  cases ho : o.guard with
  | none => rfl
  | some jw =>
    obtain ⟨j, want⟩ := jw
    simp only [yielded, gslot, List.getElem?_toArray]
    cases hd : (all[j]?).bind (·.dst) with
    | none => rfl
    | some d =>
      simp only [Option.bind_some]
      have h1 := ha.2.1 d
      rw [Array.getD_eq_getD_getElem?] at h1
      unfold real at h1
      cases hx : a.tmps[d]? with
      | none =>
        rw [hx] at h1
        simp only [Option.getD_none] at h1
        cases hg : g d with
        | false => rfl
        | true => rw [hg] at h1; simp only [if_true] at h1; rw [← h1]; rfl
      | some u =>
        rw [hx] at h1
        simp only [Option.getD_some] at h1
        cases hg : g d with
        | false => rw [hg] at h1; simp only [Bool.false_eq_true, if_false] at h1; rw [h1]; rfl
        | true =>
          rw [hg] at h1; simp only [if_true] at h1
          rw [h1]
          cases f d <;> simp [isWord]

/-- One result. -/
def resOne (tmps : Array Value) : ResultVar → Go.Sem Value
  | .tmp t => pure (tmps.getD t undef)
  | .cell c t => do loadVar t (← asAddr (tmps.getD c undef))
theorem results_eq (fn : Func) (tmps : Array Value) : results fn tmps = (do let vs ← fn.results.mapM (resOne tmps); pure (if h : vs.size = 1 then vs[0] else .tuple vs)) := by
  have : (fun x : ResultVar => match x with | .tmp t => (pure (tmps.getD t undef) : Go.Sem Value) | .cell c t => do loadVar t (← asAddr (tmps.getD c undef))) = resOne tmps := by
    funext x; cases x <;> rfl
  rw [← this]
  rfl

theorem fin_sound {f : F} {w : World} (hres : e.fn.results = e.res.toArray) (h : fin e R f w e.res []) : ∃ v, Results e f w v ∧ R (.returned v) w := by
  have key : ∀ (r : List ResultVar) (acc : List Value), fin e R f w r acc → ∃ vs : List Value, R (.returned (tupled (acc.reverse ++ vs))) w ∧ ∀ a, Fr e.n e.ds f a →
      (r.mapM (resOne a.tmps)).run e.P w = .ok vs w := by
    intro r
    induction r with
    | nil => exact fun acc h => ⟨[], by simpa [fin] using h, fun a _ => by simp⟩
    | cons x r ih =>
      intro acc h
      cases x with
      | tmp t =>
        obtain ⟨vs, h1, h2⟩ := ih _ h
        refine ⟨f t :: vs, by simpa using h1, fun a ha => ?_⟩
        have h3 := h2 a ha
        have h4 := ha.2.1 t
        simp only [List.mapM_cons, resOne, Sem.run_bind, Sem.run_pure, Result.andThen_ok, h4, h3]
      | cell c t =>
        obtain ⟨h0, h⟩ := h
        obtain ⟨cs, hl, ⟨ad, hp, hr⟩, hk⟩ := exCells_out _ _ h
        obtain ⟨vs, h1, h2⟩ := ih _ hk
        refine ⟨_ :: vs, by simpa using h1, fun a ha => ?_⟩
        have h3 := h2 a ha
        have h4 := ha.2.1 c
        have h5 := run_loadOp w h0 hl hr
        simp only [Instr.loadAt, Instr.sureAddr, Sem.run_bind, Sem.run_pure, Result.andThen_ok] at h5
        have h6 : (asAddr (Value.pointer (some ad))).run e.P w = .ok ad w := rfl
        simp only [List.mapM_cons, resOne, Sem.run_bind, Sem.run_pure, Result.andThen_ok, h4, hp, h6, h5, h3]
  obtain ⟨vs, h1, h2⟩ := key e.res [] h
  refine ⟨tupled vs, fun a ha => ?_, by simpa using h1⟩
  have h3 := h2 a ha
  rw [results_eq, hres]
  simp only [Array.mapM_eq_mapM_toList, Sem.run_bind, Sem.run_map, h3, Result.andThen_ok, Sem.run_pure]
  match vs with
  | [] => rfl
  | [v] => rfl
  | v :: u :: r => simp [tupled]

theorem vcX_sound {K : List Item → Prop} {Z : Prop} {id : Nat} : ∀ {todo : List Item}, vcX K Z id todo → (∃ k, exitTo id todo = some k ∧ K k) ∨ (exitTo id todo = none ∧ Z)
  | [], h => .inr ⟨rfl, h⟩
  | .inBlock id' :: k, h => by
    simp only [vcX] at h
    split at h
    · rename_i hi; exact .inl ⟨k, by simp [exitTo, hi], h⟩
    · rename_i hi
      rcases vcX_sound h with ⟨k', h1, h2⟩ | ⟨h1, h2⟩
      · exact .inl ⟨k', by simp [exitTo, hi, h1], h2⟩
      · exact .inr ⟨by simp [exitTo, hi, h1], h2⟩
  | .code _ :: k, h => by
    rcases vcX_sound (todo := k) h with ⟨k', h1, h2⟩ | ⟨h1, h2⟩
    · exact .inl ⟨k', by simp [exitTo, h1], h2⟩
    · exact .inr ⟨by simp [exitTo, h1], h2⟩
  | .inLoop _ :: k, h => by
    rcases vcX_sound (todo := k) h with ⟨k', h1, h2⟩ | ⟨h1, h2⟩
    · exact .inl ⟨k', by simp [exitTo, h1], h2⟩
    · exact .inr ⟨by simp [exitTo, h1], h2⟩
  | .inScope _ :: k, h => by
    rcases vcX_sound (todo := k) h with ⟨k', h1, h2⟩ | ⟨h1, h2⟩
    · exact .inl ⟨k', by simp [exitTo, h1], h2⟩
    · exact .inr ⟨by simp [exitTo, h1], h2⟩
  | .inRegion _ _ :: k, h => by
    rcases vcX_sound (todo := k) h with ⟨k', h1, h2⟩ | ⟨h1, h2⟩
    · exact .inl ⟨k', by simp [exitTo, h1], h2⟩
    · exact .inr ⟨by simp [exitTo, h1], h2⟩
  | .inRangeFunc _ :: k, h => by
    rcases vcX_sound (todo := k) h with ⟨k', h1, h2⟩ | ⟨h1, h2⟩
    · exact .inl ⟨k', by simp [exitTo, h1], h2⟩
    · exact .inr ⟨by simp [exitTo, h1], h2⟩
  | .endRangeFunc _ :: k, h => by
    rcases vcX_sound (todo := k) h with ⟨k', h1, h2⟩ | ⟨h1, h2⟩
    · exact .inl ⟨k', by simp [exitTo, h1], h2⟩
    · exact .inr ⟨by simp [exitTo, h1], h2⟩
  | .beginRound :: k, h => by
    rcases vcX_sound (todo := k) h with ⟨k', h1, h2⟩ | ⟨h1, h2⟩
    · exact .inl ⟨k', by simp [exitTo, h1], h2⟩
    · exact .inr ⟨by simp [exitTo, h1], h2⟩
  | .call _ _ _ _ :: k, h => by
    rcases vcX_sound (todo := k) h with ⟨k', h1, h2⟩ | ⟨h1, h2⟩
    · exact .inl ⟨k', by simp [exitTo, h1], h2⟩
    · exact .inr ⟨by simp [exitTo, h1], h2⟩
  | .extern _ _ :: k, h => by
    rcases vcX_sound (todo := k) h with ⟨k', h1, h2⟩ | ⟨h1, h2⟩
    · exact .inl ⟨k', by simp [exitTo, h1], h2⟩
    · exact .inr ⟨by simp [exitTo, h1], h2⟩

theorem endO_sound (hres : e.fn.results = e.res.toArray) (hfn : e.P.funcs[e.k]? = some e.fn) {f : F} {w : World} :
    (endO e R none f w → At e R [] f w) ∧ (∀ k, endO e R (some .ret) f w → At e R (.code .ret :: k) f w) := by
  have key : ∀ j, endO e R j f w → e.round = none → ∀ m, (m = [] ∨ ∃ k, m = .code .ret :: k) → At e R m f w := by
    intro j h hr m hm
    unfold endO at h
    rw [hr] at h
    simp only at h
    split at h
    · rename_i hds
      obtain ⟨v, h1, h2⟩ := fin_sound hres h
      exact At.finish hfn hr hds h1 h2 m hm
    · rename_i d hds
      obtain ⟨D, w', rfl, ht, h⟩ := h
      obtain ⟨v, h1, h2⟩ := fin_sound hres h
      exact At.finishM hfn hr hds ht h1 h2 m hm
    · exact h.elim
  constructor
  · intro h
    cases hr : e.round with
    | none => exact key none h hr [] (.inl rfl)
    | some l =>
      unfold endO at h
      rw [hr] at h
      obtain ⟨v, w', h1, h2⟩ := h
      exact At.roundEnd hr h1 h2
  · intro k h
    cases hr : e.round with
    | none => exact key _ h hr _ (.inr ⟨k, rfl⟩)
    | some l =>
      unfold endO at h
      rw [hr] at h
      obtain ⟨v, w', h1, h2⟩ := h
      exact At.roundRet hr h1 h2

theorem vc_sound (hres : e.fn.results = e.res.toArray) (hfn : e.P.funcs[e.k]? = some e.fn) : ∀ (m : Nat) (s : St) (f : F) (w : World), vc e R m s f w → Sem e R s f w
  | 0, _, _, _, h => h
  | m + 1, s, f, w, h => by
    cases s with
    | code todo =>
      match todo with
      | [] =>
        exact (endO_sound hres hfn).1 h
      | .inBlock _ :: todo => exact At.inBlock (vc_sound hres hfn m _ _ _ h)
      | .inLoop c :: todo => exact At.inLoop h
      | .inScope c :: todo => exact At.inScope (vc_sound hres hfn m _ _ _ h)
      | .code c :: todo =>
        cases c with
        | skip => exact At.skip (vc_sound hres hfn m _ _ _ h)
        | label l => exact At.label (vc_sound hres hfn m _ _ _ h)
        | seq a b => exact At.seq (vc_sound hres hfn m _ _ _ h)
        | block id c => exact At.block (vc_sound hres hfn m _ _ _ h)
        | loop c => exact At.loop h
        | scope c => exact At.scope (vc_sound hres hfn m _ _ _ h)
        | region id ops d =>
          cases d with
          | false =>
            have h1 : Sem e R (.ops ops.toList ops.toList todo) f w := vc_sound hres hfn m _ _ _ h
            exact At.of_wpIn fun a ha => wpIn_region_list (by simpa using h1 a ha)
          | true => exact h
        | cond x a b =>
          obtain ⟨h1, h2⟩ := h
          have : ∃ c, ev f x = .bool c := by
            unfold isB at h1; split at h1
            · exact ⟨_, by assumption⟩
            · exact h1.elim
          obtain ⟨c, hc⟩ := this
          have h3 : toB (ev f x) = c := by rw [hc]; rfl
          cases c with
          | true => rw [if_pos h3] at h2; exact At.cond hc (show Sem e R (.code (.code a :: todo)) f w from vc_sound hres hfn m _ _ _ h2)
          | false => rw [if_neg (by rw [h3]; decide)] at h2; exact At.cond hc (show Sem e R (.code (.code b :: todo)) f w from vc_sound hres hfn m _ _ _ h2)
        | exit id =>
          rcases vcX_sound h with ⟨k, hk, h1⟩ | ⟨hk, h1⟩
          · exact At.exit hk (vc_sound hres hfn m _ _ _ h1)
          · unfold endX at h1
            split at h1
            · rename_i l hr
              unfold endO at h1
              rw [hr] at h1
              obtain ⟨v, w', h2, h3⟩ := h1
              exact At.roundExit hr hk h2 h3
            · exact h1.elim
        | ret =>
          exact (endO_sound hres hfn).2 _ h
        | rangeFunc _ _ _ _ => exact h
        | goto _ => exact h
        | refuse _ => exact h
      | .inRegion _ _ :: _ => exact h.elim
      | .inRangeFunc _ :: _ => exact h.elim
      | .endRangeFunc _ :: _ => exact h.elim
      | .beginRound :: _ => exact h
      | .call _ _ _ _ :: _ => exact h.elim
      | .extern _ _ :: _ => exact h.elim
    | ops all rest todo =>
      match rest with
      | [] =>
        have h1 : Sem e R (.code todo) f w := vc_sound hres hfn m _ _ _ h
        exact fun a ha => ⟨rfl, f, ha, h1⟩
      | o :: rest =>
        simp only [vc] at h
        split at h
        · have h1 := vc_sound hres hfn m _ _ _ h
          intro a ha
          exact h1 a (by rw [real_gT]; exact ha)
        · rename_i hg
          intro a ha
          have hw : Region.wanted o (yielded all.toArray a.tmps) = true := by
            unfold Region.wanted
            cases ho : o.guard with
            | none => rfl
            | some _ => rw [ho] at hg; exact absurd rfl hg
          refine wpList_go hw ?_
          split at h
          · rename_i hp
            obtain ⟨h1, h2⟩ := h
            have h3 : Sem e R (.ops all rest todo) (updO e.n f o.dst (valOf e.P (ev f) o.op)) w := vc_sound hres hfn m _ _ _ h2
            refine wpIn_of (pure_noDefer hp) ?_
            rw [ha.eval, run_pure w hp h1]
            exact h3 _ (ha.put _ _)
          · refine eff_sound h (by rw [ha.eval]) fun v w' hk => ?_
            have h3 : Sem e R (.ops all rest todo) (updO e.n f o.dst v) w' := vc_sound hres hfn m _ _ _ hk
            exact h3 _ (ha.put _ _)
    | opsG all rest todo g =>
      match rest with
      | [] =>
        have h1 : Sem e R (.code todo) (real g f) w := vc_sound hres hfn m _ _ _ h
        exact fun a ha => ⟨rfl, _, ha, h1⟩
      | o :: rest =>
        intro a ha
        have hw := wanted_cnd (all := all) (o := o) ha
        simp only [vc] at h
        split at h
        · rename_i hp
          obtain ⟨hd, h1, h2, h3⟩ := h
          have h4 : Sem e R (.opsG all rest todo (updG g o.dst (cnd all f g o))) (updO e.n f o.dst (valOf e.P (ev f) o.op)) w := vc_sound hres hfn m _ _ _ h3
          cases hc : cnd all f g o with
          | true =>
            rw [hc] at hw h4
            refine wpList_go hw ?_
            refine wpIn_of (pure_noDefer hp) ?_
            rw [hc] at h2
            rw [readsFor_spec ha.eval hp h2 (pure_noSel hp) (h1 hc), run_pure w hp (h1 hc)]
            refine h4 _ ?_
            rw [real_upd hd]
            exact ha.put _ _
          | false =>
            rw [hc] at hw h4
            refine wpList_no hw ?_
            refine h4 _ ?_
            rw [real_upd hd]
            exact ha.put _ _
        · obtain ⟨hd, h⟩ := h
          split at h
          · rename_i hc
            obtain ⟨h1, h2⟩ := h
            rw [hc] at hw
            refine wpList_go hw (eff_sound h2 (execOp_congr o (eff_noSel h2) (fun x hx => by rw [ha.eval]; exact readsOk_spec rfl h1 x (by simpa using hx))) fun v w' hk => ?_)
            have h4 : Sem e R (.opsG all rest todo (updG g o.dst true)) (updO e.n f o.dst v) w' := vc_sound hres hfn m _ _ _ hk
            refine h4 _ ?_
            rw [real_upd hd]
            exact ha.put _ _
          · rename_i hc
            rw [show cnd all f g o = false by simpa using hc] at hw
            refine wpList_no hw ?_
            have h4 : Sem e R (.opsG all rest todo g) (updO e.n f o.dst undef) w := vc_sound hres hfn m _ _ _ h
            refine h4 _ ?_
            rw [real_updU hd]
            exact ha.put _ _

end
/-- Several ways lead to one point: shown once. -/
theorem joinP {P : F → World → Prop} {G : Prop} (φ : F → World → Prop) (second : (∀ f w, φ f w → P f w) → G) (first : ∀ f w, φ f w → P f w) : G := second first

end Go.Vc
