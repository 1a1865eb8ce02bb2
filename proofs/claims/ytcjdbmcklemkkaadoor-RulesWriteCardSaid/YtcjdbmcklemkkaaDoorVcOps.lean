/- The operations of the machine that turn no memory, as functions on values; and that the machine's own run of them is just that. Nothing of any program stands here. -/
import Derived.Test.YtcjdbmcklemkkaaDoorVcCore
import Derived.WalkSpells
import Derived.WalkLawsBesides
namespace Go.Vc
open Go

/-! ### what a type is -/
inductive Tag | bool | str | slice | ptr | map | func | struct | arr | int (k : IntKind) | other
  deriving DecidableEq

def tag (P : Program) (t : TypeId) : Tag :=
  match P.underlying t with
  | some .bool => .bool
  | some .string => .str
  | some (.slice _) => .slice
  | some (.pointer _) => .ptr
  | some (.map _ _) => .map
  | some (.func _ _ _) => .func
  | some (.struct _) => .struct
  | some (.array _ _) => .arr
  | some (.int k) => .int k
  | _ => .other

def aggB (P : Program) (t : TypeId) : Bool :=
  match P.underlying t with
  | some (.struct _) | some (.array _ _) => true
  | _ => false

/-- The element type's cells. -/
def esz (P : Program) (t : TypeId) : Nat := P.cellsOf (P.elem t)
/-- How many elements an array type has. -/
def alen (P : Program) (t : TypeId) : Nat := P.arrayLen t
/-- A field's place, cells, and whether it is a struct or an array. -/
def fld (P : Program) (s : TypeId) (i : Nat) : Nat × Nat × Bool :=
  match P.underlying s with
  | some (.struct fs) => match fs[i]? with
    | some f => (f.offset, P.cellsOf f.type, aggB P f.type)
    | none => (0, 0, false)
  | _ => (0, 0, false)
def fldOk (P : Program) (s : TypeId) (i : Nat) : Bool :=
  match P.underlying s with
  | some (.struct fs) => match fs[i]? with
    | some f => (P.info? f.type).isSome && P.cellsOf f.type != 0 && (P.underlying f.type).isSome
    | none => false
  | _ => false

/-- A slice's three numbers. -/
structure Sl where
  a : Option Addr
  len : Nat
  cap : Nat
def Sl.v (s : Sl) : Value := .slice s.a s.len s.cap

/-! ### values -/
def byteAt (s : ByteArray) (i : Nat) : UInt8 := s.data.getD i 0
def toB : Value → Bool | .bool b => b | _ => false
def isB : Value → Prop | .bool _ => True | _ => False
def toI : Value → Int | .int _ n => n | _ => 0
def isI : Value → Prop | .int _ _ => True | _ => False

def intV (op : BinOp) (k : IntKind) (a b : Int) : Value :=
  match op with
  | .add => .int k (k.wrap (a + b))
  | .sub => .int k (k.wrap (a - b))
  | .mul => .int k (k.wrap (a * b))
  | .quo => .int k (k.wrap (a.tdiv b))
  | .rem => .int k (a.tmod b)
  | .and => .int k (bits .and k a b)
  | .or => .int k (bits .or k a b)
  | .xor => .int k (bits .xor k a b)
  | .andNot => .int k (bits .andNot k a b)
  | .shl => .int k (k.wrap (a * 2 ^ (min b.toNat k.bits)))
  | .shr => .int k (a.fdiv (2 ^ (min b.toNat k.bits)))
  | .eql => .bool (a == b)
  | .neq => .bool (a != b)
  | .lss => .bool (decide (a < b))
  | .leq => .bool (decide (a ≤ b))
  | .gtr => .bool (decide (b < a))
  | .geq => .bool (decide (b ≤ a))
def intOk (op : BinOp) (k k' : IntKind) (b : Int) : Prop :=
  match op with
  | .shl | .shr => 0 ≤ b
  | .quo | .rem => k = k' ∧ b ≠ 0
  | _ => k = k'
def strV (op : BinOp) (a b : ByteArray) : Value :=
  match op with
  | .add => .string (a ++ b)
  | .eql => .bool (a.toList == b.toList)
  | .neq => .bool (!(a.toList == b.toList))
  | .lss => .bool (Op.bytesLess a.toList b.toList)
  | .leq => .bool (Op.bytesLess a.toList b.toList || a.toList == b.toList)
  | .gtr => .bool (!(Op.bytesLess a.toList b.toList || a.toList == b.toList))
  | .geq => .bool (!Op.bytesLess a.toList b.toList)
  | _ => undef
def strOk (op : BinOp) (a b : ByteArray) : Prop :=
  match op with
  | .add => a.size + b.size ≤ 9223372036854775807
  | .eql | .neq | .lss | .leq | .gtr | .geq => True
  | _ => False
/-- '==' or '!=', by what '==' answers. -/
def eqV (op : BinOp) (b : Bool) : Value :=
  match op with
  | .eql => .bool b
  | .neq => .bool (!b)
  | _ => undef
def eqOk (op : BinOp) : Prop :=
  match op with
  | .eql | .neq => True
  | _ => False

def binV (op : BinOp) : Value → Value → Value
  | .int k a, .int _ b => intV op k a b
  | .string a, .string b => strV op a b
  | .bool a, .bool b => eqV op (a == b)
  | .slice a _ _, .slice b _ _ => eqV op (a.isNone && b.isNone)
  | .pointer a, .pointer b => eqV op (a.isNone && b.isNone)
  | .map a, .map b => eqV op (a.isNone && b.isNone)
  | .func _ _ _, .nilFunc => eqV op false
  | .nilFunc, .func _ _ _ => eqV op false
  | .nilFunc, .nilFunc => eqV op true
  | _, _ => undef
def binOk (P : Program) (t : TypeId) (op : BinOp) : Value → Value → Prop
  | .int k _, .int k' b => intOk op k k' b
  | .string a, .string b => strOk op a b
  | .bool _, .bool _ => eqOk op ∧ tag P t = .bool
  | .slice a _ _, .slice b _ _ => eqOk op ∧ tag P t = .slice ∧ (a = none ∨ b = none)
  | .pointer a, .pointer b => eqOk op ∧ tag P t = .ptr ∧ (a = none ∨ b = none)
  | .map a, .map b => eqOk op ∧ tag P t = .map ∧ (a = none ∨ b = none)
  | .func _ _ _, .nilFunc => eqOk op ∧ tag P t = .func
  | .nilFunc, .func _ _ _ => eqOk op ∧ tag P t = .func
  | .nilFunc, .nilFunc => eqOk op ∧ tag P t = .func
  | _, _ => False

section
variable {P : Program} (w : World)

theorem tag_slice {t : TypeId} (h : tag P t = .slice) : ∃ e, P.underlying t = some (.slice e) := by
  unfold tag at h; split at h <;> simp_all
theorem tag_ptr {t : TypeId} (h : tag P t = .ptr) : ∃ e, P.underlying t = some (.pointer e) := by
  unfold tag at h; split at h <;> simp_all
theorem tag_map {t : TypeId} (h : tag P t = .map) : ∃ k e, P.underlying t = some (.map k e) := by
  unfold tag at h; split at h <;> simp_all
theorem tag_bool {t : TypeId} (h : tag P t = .bool) : P.underlying t = some .bool := by
  unfold tag at h; split at h <;> simp_all
theorem tag_str {t : TypeId} (h : tag P t = .str) : P.underlying t = some .string := by
  unfold tag at h; split at h <;> simp_all
theorem tag_func {t : TypeId} (h : tag P t = .func) : ∃ a b c, P.underlying t = some (.func a b c) := by
  unfold tag at h; split at h <;> simp_all
theorem tag_int {t : TypeId} {k : IntKind} (h : tag P t = .int k) : P.underlying t = some (.int k) := by
  unfold tag at h; split at h <;> simp_all
theorem tag_arr {t : TypeId} (h : tag P t = .arr) : ∃ n e, P.underlying t = some (.array n e) := by
  unfold tag at h; split at h <;> simp_all
theorem tag_struct {t : TypeId} (h : tag P t = .struct) : ∃ fs, P.underlying t = some (.struct fs) := by
  unfold tag at h; split at h <;> simp_all

theorem run_equal {t : TypeId} {x y : Value} {b : Bool} (h : ∀ d, (Op.equalIn (d + 1) t x y).run P w = .ok b w) : (Op.equal t x y).run P w = .ok b w := h 9999
theorem run_eq_of {t : TypeId} {op : BinOp} {x y : Value} {b : Bool} (h1 : eqOk op) (hx : ∀ k n, x ≠ .int k n) (hs : ∀ s, x ≠ .string s) (hf : ∀ k n, x ≠ .float k n) (hc : ∀ k n m, x ≠ .complex k n m) (h : ∀ d, (Op.equalIn (d + 1) t x y).run P w = .ok b w) : (binOp op t x y).run P w = .ok (eqV op b) w := by
  have := run_equal w h
  cases op <;> simp only [eqOk] at h1
  · have e : binOp .eql t x y = (do pure (.bool (← Op.equal t x y))) := by
      cases x <;> first | rfl | exact absurd rfl (hx _ _) | exact absurd rfl (hs _) | exact absurd rfl (hf _ _) | exact absurd rfl (hc _ _ _)
    rw [e]; simp [this, eqV]
  · have e : binOp .neq t x y = (do pure (.bool (!(← Op.equal t x y)))) := by
      cases x <;> first | rfl | exact absurd rfl (hx _ _) | exact absurd rfl (hs _) | exact absurd rfl (hf _ _) | exact absurd rfl (hc _ _ _)
    rw [e]; simp [this, eqV]

theorem run_binOp {t : TypeId} {op : BinOp} {x y : Value} (h : binOk P t op x y) : (binOp op t x y).run P w = .ok (binV op x y) w := by
  unfold binOk at h
  split at h
  · -- ints
    rename_i k a k' b
    simp only [binV]
    unfold intOk at h
    cases op <;> simp only [intV, binOp] at * <;> first
      | (subst h; simp [Op.intArith, Op.intCmp, Op.intBits, Go.bits]; done)
      | (obtain ⟨rfl, hb⟩ := h; simp [Op.intDiv, hb]; done)
      | (simp only [Op.shift]; rw [if_neg (by omega)]; simp)
  · rename_i a b
    simp only [binV]
    unfold strOk at h
    cases op <;> simp only [strV, binOp, Op.stringOp] at * <;> first
      | exact h.elim
      | (rw [if_neg (by simp; omega)]; rfl)
      | rfl
  · obtain ⟨h1, h2⟩ := h
    have h3 := tag_bool h2
    cases op <;> simp only [eqOk] at h1 <;> simp only [binV, eqV]
    · rw [run_eql_bool w t _ _ h3]
    · rw [run_neq_bool w t _ _ h3]
  · rename_i a n c b n' c'
    obtain ⟨h1, h2, h3⟩ := h
    obtain ⟨e, he⟩ := tag_slice h2
    simp only [binV]
    refine run_eq_of w h1 (by simp) (by simp) (by simp) (by simp) (fun d => ?_)
    rcases h3 with rfl | rfl <;> (try cases a) <;> (try cases b) <;> simp [Op.equalIn, run_underlying he]
  · rename_i a b
    obtain ⟨h1, h2, h3⟩ := h
    obtain ⟨e, he⟩ := tag_ptr h2
    simp only [binV]
    refine run_eq_of w h1 (by simp) (by simp) (by simp) (by simp) (fun d => ?_)
    rcases h3 with rfl | rfl <;> (try cases a) <;> (try cases b) <;> simp [Op.equalIn, run_underlying he]
  · rename_i a b
    obtain ⟨h1, h2, h3⟩ := h
    obtain ⟨k, e, he⟩ := tag_map h2
    simp only [binV]
    refine run_eq_of w h1 (by simp) (by simp) (by simp) (by simp) (fun d => ?_)
    rcases h3 with rfl | rfl <;> (try cases a) <;> (try cases b) <;> simp [Op.equalIn, run_underlying he]
  all_goals try
    obtain ⟨h1, h2⟩ := h
    obtain ⟨k, e, c, he⟩ := tag_func h2
    simp only [binV]
    refine run_eq_of w h1 (by simp) (by simp) (by simp) (by simp) (fun d => ?_)
    simp [Op.equalIn, run_underlying he]
  · exact h.elim

theorem run_eqGuard {t : TypeId} {op : BinOp} {x y : Value} (a b : Operand) (h : binOk P t op x y) : (eqGuard op t a b x y).run P w = .ok () w := by
  have : eqGuard op t a b x y = pure () := by
    unfold binOk at h
    split at h
    all_goals first
      | exact h.elim
      | (simp only [eqGuard_at_int, eqGuard_at_string, eqGuard_at_bool, eqGuard_at_slice, eqGuard_at_pointer, eqGuard_at_map, eqGuard_at_func, eqGuard_at_nilFunc])
  rw [this]; rfl
end
end Go.Vc
