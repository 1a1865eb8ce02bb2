/- The operations that turn no memory, all together. -/
import Derived.Test.YtcjdbmcklemkkaaDoorVcOps
namespace Go.Vc
open Go
set_option linter.unusedSimpArgs false

/-- A slice type whose element type is there. -/
def isSlc (P : Program) (t : TypeId) : Bool :=
  match P.underlying t with
  | some (.slice e) => (P.info? e).isSome
  | _ => false
def isArr (P : Program) (t : TypeId) : Bool :=
  match P.underlying t with
  | some (.array _ e) => (P.info? e).isSome && (P.underlying e).isSome
  | _ => false

def unV (op : UnOp) : Value → Value
  | .int k n => match op with
    | .neg => .int k (k.wrap (0 - n))
    | .xor => .int k (bits .xor k (if k.signed then -1 else k.max) n)
    | _ => undef
  | .bool b => match op with
    | .not => .bool (!b)
    | _ => undef
  | _ => undef
def unOk (op : UnOp) : Value → Prop
  | .int _ _ => match op with
    | .neg | .xor => True
    | _ => False
  | .bool _ => match op with
    | .not => True
    | _ => False
  | _ => False

def faV (off : Nat) : Value → Value
  | .pointer (some a) => .pointer (some (a.add off))
  | _ => undef
def isPtr : Value → Prop
  | .pointer (some _) => True
  | _ => False
def fieldV (off size : Nat) (agg : Bool) : Value → Value
  | .agg cs => if agg = true then .agg (cs.extract off (off + size)) else cs.getD off undef
  | _ => undef
def fieldOk (off : Nat) (agg : Bool) : Value → Prop
  | .agg cs => agg = true ∨ off < cs.size
  | _ => False
def adr (a : Option Addr) : Addr := a.getD ⟨0, 0, none⟩
def iaV (z : Nat) : Value → Value → Value
  | .slice a _ _, .int _ i => .pointer (some ((adr a).add (i.toNat * z)))
  | .pointer a, .int _ i => .pointer (some ((adr a).add (i.toNat * z)))
  | _, _ => undef
def iaOk (P : Program) (t : TypeId) : Value → Value → Prop
  | .slice a len _, .int _ i => isSlc P t = true ∧ a.isSome = true ∧ 0 ≤ i ∧ i < len
  | .pointer a, .int _ i => isArr P t = true ∧ a.isSome = true ∧ 0 ≤ i ∧ i < alen P t
  | _, _ => False
def ixV (P : Program) (t : TypeId) : Value → Value → Value
  | .string s, .int _ i => .int .u8 (byteAt s i.toNat).toNat
  | .agg cs, .int _ i => if aggB P (P.elem t) = true then .agg (cs.extract (i.toNat * esz P t) (i.toNat * esz P t + esz P t)) else cs.getD (i.toNat * esz P t) undef
  | _, _ => undef
def ixOk (P : Program) (t : TypeId) : Value → Value → Prop
  | .string s, .int _ i => tag P t = .str ∧ 0 ≤ i ∧ i < s.size
  | .agg cs, .int _ i => isArr P t = true ∧ 0 ≤ i ∧ i < alen P t ∧ (aggB P (P.elem t) = true ∨ i.toNat * esz P t < cs.size)
  | _, _ => False
def ixIs : Option Value → Prop
  | none => True
  | some (.int _ _) => True
  | _ => False
def lo (v : Option Value) : Int := match v with | some (.int _ n) => n | _ => 0
def hi (v : Option Value) (d : Nat) : Int := match v with | some (.int _ n) => n | _ => d
def slV (P : Program) (t : TypeId) (l h : Option Value) : Value → Value
  | .string s => .string (s.extract (lo l).toNat (hi h s.size).toNat)
  | .slice a len cap => .slice (if cap = (lo l).toNat then a else a.map (·.add ((lo l).toNat * esz P t))) ((hi h len).toNat - (lo l).toNat) (cap - (lo l).toNat)
  | .pointer a => .slice (some (if alen P t = (lo l).toNat then adr a else (adr a).add ((lo l).toNat * esz P t))) ((hi h (alen P t)).toNat - (lo l).toNat) (alen P t - (lo l).toNat)
  | _ => undef
def slOk (P : Program) (t : TypeId) (l h : Option Value) : Value → Prop
  | .string s => tag P t = .str ∧ ixIs l ∧ ixIs h ∧ 0 ≤ lo l ∧ lo l ≤ hi h s.size ∧ hi h s.size ≤ s.size
  | .slice _ len cap => isSlc P t = true ∧ ixIs l ∧ ixIs h ∧ 0 ≤ lo l ∧ lo l ≤ hi h len ∧ hi h len ≤ cap
  | .pointer a => isArr P t = true ∧ a.isSome = true ∧ ixIs l ∧ ixIs h ∧ 0 ≤ lo l ∧ lo l ≤ hi h (alen P t) ∧ hi h (alen P t) ≤ alen P t
  | _ => False
def cvV (P : Program) (dst : TypeId) : Value → Value
  | .int _ n => match tag P dst with | .int k => .int k (k.wrap n) | _ => undef
  | v => v
def cvOk (P : Program) (src dst : TypeId) : Value → Prop
  | .int _ _ => (P.underlying src).isSome = true ∧ (match tag P dst with | .int _ => True | _ => False)
  | .string _ => tag P src = .str ∧ tag P dst = .str
  | _ => False
def exV (i : Nat) : Value → Value
  | .tuple vs => vs.getD i undef
  | _ => undef
def exOk (i : Nat) : Value → Prop
  | .tuple vs => i < vs.size
  | _ => False
def ncOk : Value → Prop
  | .pointer (some _) => True
  | .func (.func _) _ _ => True
  | _ => False
def lenV (P : Program) (t : TypeId) : Value → Value
  | .string s => .int .i64 s.size
  | .slice _ n _ => .int .i64 n
  | _ => .int .i64 (alen P t)
def lenOk (P : Program) (t : TypeId) : Value → Prop
  | .string _ => tag P t = .str
  | .slice _ _ _ => tag P t = .slice
  | _ => tag P t = .arr
def capV : Value → Value
  | .slice _ _ c => .int .i64 c
  | _ => undef
def capOk (P : Program) (t : TypeId) : Value → Prop
  | .slice _ _ _ => tag P t = .slice
  | _ => False

/-- Cells laid over others. -/
def setCells : List Value → Nat → List Value → List Value
  | l, _, [] => l
  | l, off, v :: vs => setCells (l.set off v) (off + 1) vs
/-- A part's place and size in a struct or an array. -/
def bplace (P : Program) (t : TypeId) (i : Nat) : Nat × Nat :=
  match P.underlying t with
  | some (.struct _) => ((fld P t i).1, (fld P t i).2.1)
  | _ => (i * esz P t, esz P t)
def zl (P : Program) (t : TypeId) : List Value := (((P.info? t).bind (·.zero)).map fun z => z.cells.toList).getD []
def zOk (P : Program) (t : TypeId) : Bool := ((P.info? t).bind (·.zero)).isSome
def fillV (P : Program) (t : TypeId) : List Value → List (Nat × Value) → List Value
  | cs, [] => cs
  | cs, (i, v) :: r => fillV P t (setCells cs (bplace P t i).1 v.cells.toList) r
def fillOk (P : Program) (t : TypeId) : Nat → List (Nat × Value) → Prop
  | _, [] => True
  | n, (i, v) :: r => v.cells.size = (bplace P t i).2 ∧ (bplace P t i).1 + v.cells.size ≤ n ∧ fillOk P t n r
/-- A struct type whose fields are all there, or an array type. -/
def bldOk (P : Program) (t : TypeId) : Bool :=
  zOk P t && match P.underlying t with
  | some (.struct fs) => fs.toList.all fun f => (P.info? f.type).isSome
  | some (.array _ e) => (P.info? e).isSome
  | _ => false
def bldIx (P : Program) (t : TypeId) (i : Nat) : Prop :=
  match P.underlying t with
  | some (.struct fs) => i < fs.size
  | _ => True
instance (P : Program) (t : TypeId) (i : Nat) : Decidable (bldIx P t i) := by unfold bldIx; split <;> infer_instance

def isConst : Operand → Bool
  | .const _ => true
  | _ => false

/-- Is it one that these functions tell? -/
def isPure (P : Program) : Op → Bool
  | .move _ | .assign _ | .pick _ _ _ | .unOp _ _ _ | .indexAddr _ _ _ | .index _ _ _ | .nilCheck _ | .extract _ _ | .makeFunc _ _ _ => true
  | .fieldAddr s _ i | .field s _ i => fldOk P s i
  | .build t parts => bldOk P t && parts.toList.all fun p => decide (bldIx P t p.1)
  | .binOp _ t x y _ => match tag P t with
    | .int _ | .str | .bool | .slice | .map | .func => true
    | .ptr => isConst x || isConst y
    | _ => false
  | .slice _ _ _ _ m => m.isNone
  | .convert src dst _ => match tag P src, tag P dst with
    | .int _, .int _ => true
    | .str, .str => true
    | _, _ => false
  | .call { callee := .builtin .len, args := _, argTypes := ts } => match tag P (ts.getD 0 0) with
    | .str | .slice | .arr => true
    | _ => false
  | .call { callee := .builtin .cap, args := _, argTypes := ts } => match tag P (ts.getD 0 0) with
    | .slice => true
    | _ => false
  | _ => false

/-- Its value. -/
def valOf (P : Program) (ρ : Operand → Value) : Op → Value
  | .move x | .assign x | .nilCheck x => ρ x
  | .pick c a b => if toB (ρ c) = true then ρ a else ρ b
  | .binOp op _ x y _ => binV op (ρ x) (ρ y)
  | .unOp op _ x => unV op (ρ x)
  | .fieldAddr s x i => faV (fld P s i).1 (ρ x)
  | .field s x i => fieldV (fld P s i).1 (fld P s i).2.1 (fld P s i).2.2 (ρ x)
  | .indexAddr t x i => iaV (esz P t) (ρ x) (ρ i)
  | .index t x i => ixV P t (ρ x) (ρ i)
  | .slice t x l h _ => slV P t (l.map ρ) (h.map ρ) (ρ x)
  | .convert _ dst x => cvV P dst (ρ x)
  | .extract x i => exV i (ρ x)
  | .makeFunc fn a c => .func fn (a.map ρ) (c.map ρ)
  | .build t parts => .agg (fillV P t (zl P t) (parts.toList.map fun p => (p.1, ρ p.2))).toArray
  | .call { callee := .builtin .len, args := xs, argTypes := ts } => lenV P (ts.getD 0 0) (ρ (xs.getD 0 default))
  | .call { callee := .builtin .cap, args := xs, argTypes := _ } => capV (ρ (xs.getD 0 default))
  | _ => undef

/-- What it asks. -/
def okOf (P : Program) (ρ : Operand → Value) : Op → Prop
  | .pick c _ _ => isB (ρ c)
  | .binOp op t x y _ => binOk P t op (ρ x) (ρ y)
  | .unOp op _ x => unOk op (ρ x)
  | .fieldAddr _ x _ => isPtr (ρ x)
  | .field s x i => fieldOk (fld P s i).1 (fld P s i).2.2 (ρ x)
  | .indexAddr t x i => iaOk P t (ρ x) (ρ i)
  | .index t x i => ixOk P t (ρ x) (ρ i)
  | .slice t x l h _ => slOk P t (l.map ρ) (h.map ρ) (ρ x)
  | .nilCheck x => ncOk (ρ x)
  | .convert src dst x => cvOk P src dst (ρ x)
  | .extract x i => exOk i (ρ x)
  | .build t parts => fillOk P t (zl P t).length (parts.toList.map fun p => (p.1, ρ p.2))
  | .call { callee := .builtin .len, args := xs, argTypes := ts } => xs.size = 1 ∧ ts.size = 1 ∧ lenOk P (ts.getD 0 0) (ρ (xs.getD 0 default))
  | .call { callee := .builtin .cap, args := xs, argTypes := ts } => xs.size = 1 ∧ ts.size = 1 ∧ capOk P (ts.getD 0 0) (ρ (xs.getD 0 default))
  | _ => True

section
variable {P : Program} (w : World)

theorem run_sizeOf {t : TypeId} (h : (P.info? t).isSome = true) : (sizeOf t).run P w = .ok (P.cellsOf t) w := by
  obtain ⟨i, hi⟩ := Option.isSome_iff_exists.1 h
  simp [sizeOf, typeInfo, hi, Program.cellsOf]

theorem isSlc_spec {t : TypeId} (h : isSlc P t = true) : P.underlying t = some (.slice (P.elem t)) ∧ (P.info? (P.elem t)).isSome = true := by
  unfold isSlc at h
  split at h
  · rename_i e he
    have : P.elem t = e := by simp [Program.elem, he]
    rw [this]; exact ⟨he, h⟩
  · cases h
theorem isArr_spec {t : TypeId} (h : isArr P t = true) : P.underlying t = some (.array (P.arrayLen t) (P.elem t)) ∧ (P.info? (P.elem t)).isSome = true ∧ (P.underlying (P.elem t)).isSome = true := by
  unfold isArr at h
  split at h
  · rename_i n e he
    have h1 : P.elem t = e := by simp [Program.elem, he]
    have h2 : P.arrayLen t = n := by simp [Program.arrayLen, he]
    rw [h1, h2]; exact ⟨he, by simpa using h⟩
  · cases h

theorem run_isAgg {t : TypeId} (h : (P.underlying t).isSome = true) : (isAgg t).run P w = .ok (aggB P t) w := by
  obtain ⟨d, hd⟩ := Option.isSome_iff_exists.1 h
  unfold isAgg aggB
  simp only [Sem.run_bind, run_underlying hd, Result.andThen_ok, hd]
  cases d <;> rfl

theorem run_part {t : TypeId} {cs : Array Value} {off : Nat} (h : (P.underlying t).isSome = true) (h2 : (P.info? t).isSome = true) (h3 : aggB P t = true ∨ off < cs.size) :
    (part t cs off).run P w = .ok (if aggB P t = true then .agg (cs.extract off (off + P.cellsOf t)) else cs.getD off undef) w := by
  unfold part
  simp only [Sem.run_bind, run_isAgg w h, Result.andThen_ok]
  cases hb : aggB P t with
  | true => simp [run_sizeOf w h2]
  | false =>
    have h4 : off < cs.size := by rcases h3 with h3 | h3; · rw [hb] at h3; cases h3
                                  · exact h3
    simp [h4]

theorem run_unary {op : UnOp} {v : Value} (h : unOk op v) : (Op.unary op v).run P w = .ok (unV op v) w := by
  unfold unOk at h
  split at h
  · cases op <;> simp only at h <;> simp [Op.unary, unV, Op.intArith, Op.intBits, Go.bits]
  · cases op <;> simp only at h <;> simp [Op.unary, unV]
  · exact h.elim

theorem fldOk_spec {s i : Nat} (h : fldOk P s i = true) : ∃ fs f, P.underlying s = some (.struct fs) ∧ fs[i]? = some f ∧ (P.info? f.type).isSome = true ∧ P.cellsOf f.type ≠ 0 ∧ (P.underlying f.type).isSome = true ∧ fld P s i = (f.offset, P.cellsOf f.type, aggB P f.type) := by
  unfold fldOk at h
  split at h
  · rename_i fs hfs
    split at h
    · rename_i f hf
      simp only [Bool.and_eq_true, bne_iff_ne, ne_eq] at h
      exact ⟨fs, f, hfs, hf, h.1.1, h.1.2, h.2, by simp [fld, hfs, hf]⟩
    · cases h
  · cases h

theorem run_fieldAt {s i : Nat} {v : Value} (h : fldOk P s i = true) (hv : isPtr v) : (Instr.fieldAt s v i).run P w = .ok (faV (fld P s i).1 v) w := by
  obtain ⟨fs, f, h1, h2, h3, h4, _, h5⟩ := fldOk_spec h
  unfold isPtr at hv
  split at hv
  · rename_i a
    simp [Instr.fieldAt, run_underlying h1, h2, Instr.sureAddr, fieldPlace, run_sizeOf w h3, h4, faV, h5]
  · exact hv.elim

theorem run_fieldOp {s i : Nat} {v : Value} (h : fldOk P s i = true) (hv : fieldOk (fld P s i).1 (fld P s i).2.2 v) : (Instr.field s v i).run P w = .ok (fieldV (fld P s i).1 (fld P s i).2.1 (fld P s i).2.2 v) w := by
  obtain ⟨fs, f, h1, h2, h3, h4, h6, h5⟩ := fldOk_spec h
  rw [h5] at hv ⊢
  unfold fieldOk at hv
  split at hv
  · rename_i cs
    simp only at hv
    simp [Instr.field, run_underlying h1, h2, asAgg, run_part w h6 h3 hv, fieldV]
  · exact hv.elim

theorem run_indexAtOp {t : TypeId} {x i : Value} (h : iaOk P t x i) : (Instr.indexAt t x i).run P w = .ok (iaV (esz P t) x i) w := by
  unfold iaOk at h
  split at h
  · rename_i a len cap k j
    obtain ⟨h1, h2, h3, h4⟩ := h
    obtain ⟨h5, h6⟩ := isSlc_spec h1
    obtain ⟨a, rfl⟩ := Option.isSome_iff_exists.1 h2
    rw [run_indexAt_slice w t a len cap k j h5, if_pos ⟨h3, h4⟩, run_sizeOf w h6]
    simp [iaV, adr, esz]
  · rename_i a k j
    obtain ⟨h1, h2, h3, h4⟩ := h
    obtain ⟨h5, h6, _⟩ := isArr_spec h1
    obtain ⟨a, rfl⟩ := Option.isSome_iff_exists.1 h2
    rw [run_indexAt_array w t a k j h5, if_pos ⟨h3, h4⟩, run_sizeOf w h6]
    simp [iaV, adr, esz]
  · exact h.elim

theorem run_indexOp {t : TypeId} {x i : Value} (h : ixOk P t x i) : (Instr.index t x i).run P w = .ok (ixV P t x i) w := by
  unfold ixOk at h
  split at h
  · rename_i s k j
    obtain ⟨h1, h3, h4⟩ := h
    have h5 : s.data[j.toNat]? = some (byteAt s j.toNat) := by
      have : j.toNat < s.data.size := by have := s.size_data; omega
      rw [byteAt, Array.getD_eq_getD_getElem?, Array.getElem?_eq_getElem this]; rfl
    have h6 : s[j.toNat]? = some (byteAt s j.toNat) := h5
    simp [Instr.index, asIntOf, run_underlying (tag_str h1), h3, h6, ixV]
  · rename_i cs k j
    obtain ⟨h1, h3, h4, h5⟩ := h
    obtain ⟨h6, h7, h8⟩ := isArr_spec h1
    simp only [Instr.index, asIntOf, Sem.run_bind, Sem.run_pure, Result.andThen_ok, run_underlying h6]
    rw [if_pos ⟨h3, h4⟩]
    simp only [Sem.run_bind, run_sizeOf w h7, Result.andThen_ok]
    have h9 := run_part (P := P) w h8 h7 h5
    unfold esz at h9
    rw [h9]
    rfl
  · exact h.elim

theorem run_bounds {isS : Bool} {len cap : Nat} {l h : Option Value} (hl : ixIs l) (hh : ixIs h) (h0 : 0 ≤ lo l) (h1 : lo l ≤ hi h len) (h2 : hi h len ≤ cap) :
    (Instr.sliceBounds isS len cap l h none).run P w = .ok ((lo l).toNat, (hi h len).toNat, cap) w := by
  unfold ixIs at hh
  split at hh
  · unfold ixIs at hl
    split at hl
    · simp [Instr.sliceBounds, lo, hi]
    · simp only [lo, hi] at *
      simp [Instr.sliceBounds, run_sliceBound (P := P) w _ _ _ _ h0 h1]
    · exact hl.elim
  · unfold ixIs at hl
    split at hl
    · simp only [lo, hi] at *
      simp [Instr.sliceBounds, run_sliceBound (P := P) w _ _ cap _ h1 h2]
    · rename_i kk j _ k2 j2
      simp only [lo, hi] at *
      have h3 : 0 ≤ j := by omega
      have h4 : j2 ≤ (j.toNat : Int) := by omega
      simp [Instr.sliceBounds, run_sliceBound (P := P) w kk j cap _ h3 h2, run_sliceBound (P := P) w k2 j2 j.toNat _ h0 h4]
    · exact hl.elim
  · exact hh.elim

theorem run_sliceOp {t : TypeId} {x : Value} {l h : Option Value} (hx : slOk P t l h x) : (Instr.sliceAt t x l h none).run P w = .ok (slV P t l h x) w := by
  unfold slOk at hx
  split at hx
  · rename_i s
    obtain ⟨h1, h2, h3, h4, h5, h6⟩ := hx
    have h7 := tag_str h1
    rw [run_sliceAt_string w t _ l h none h7]
    simp [Instr.slice, run_underlying h7, run_bounds w h2 h3 h4 h5 h6, slV]
  · rename_i a len cap
    obtain ⟨h1, h2, h3, h4, h5, h6⟩ := hx
    obtain ⟨h7, h8⟩ := isSlc_spec h1
    rw [run_sliceAt_slice w t _ l h none h7]
    simp [Instr.slice, run_underlying h7, run_bounds w h2 h3 h4 h5 h6, run_sizeOf w h8, slV, esz]
  · rename_i a
    obtain ⟨h1, h0, h2, h3, h4, h5, h6⟩ := hx
    obtain ⟨h7, h8, _⟩ := isArr_spec h1
    obtain ⟨a, rfl⟩ := Option.isSome_iff_exists.1 h0
    simp only [Instr.sliceAt, Sem.run_bind, run_underlying h7, Result.andThen_ok, Instr.sureAddr, Sem.run_pure]
    have hb := run_bounds (P := P) (isS := false) (len := P.arrayLen t) (cap := P.arrayLen t) w h2 h3 h4 h5 h6
    rw [hb]
    simp only [Result.andThen_ok, Sem.run_bind, run_sizeOf w h8, Sem.run_pure]
    rfl
  · exact hx.elim

theorem run_convertOp {src dst : TypeId} {x : Value} (h : cvOk P src dst x) : (convert src dst x).run P w = .ok (cvV P dst x) w := by
  unfold cvOk at h
  split at h
  · obtain ⟨h1, h2⟩ := h
    cases ht : tag P dst <;> rw [ht] at h2 <;> simp only at h2
    rename_i k n kk
    have h3 := tag_int ht
    obtain ⟨d, hd⟩ := Option.isSome_iff_exists.1 h1
    simp only [cvV, ht]
    simp [convert, run_underlying hd, run_underlying h3, Conv.intToInt]
  · obtain ⟨h1, h2⟩ := h
    simp [convert, run_underlying (tag_str h1), run_underlying (tag_str h2), cvV]
  · exact h.elim

theorem run_lenOp {t ty : TypeId} {x : Value} (h : lenOk P t x) : (Builtin.len_ #[t] ty #[x]).run P w = .ok (lenV P t x) w := by
  unfold lenOk at h
  split at h
  · simp [Builtin.len_, run_underlying (tag_str h), lenV, goInt]
  · obtain ⟨e, he⟩ := tag_slice h
    simp [Builtin.len_, run_underlying he, lenV, goInt]
  · obtain ⟨n, e, he⟩ := tag_arr h
    have : P.arrayLen t = n := by simp [Program.arrayLen, he]
    rename_i h1 h2
    have : lenV P t x = .int .i64 n := by
      unfold lenV alen; split
      · exact absurd rfl (h1 _)
      · exact absurd rfl (h2 _ _ _)
      · rw [this]
    rw [this]
    simp [Builtin.len_, run_underlying he, goInt]

theorem run_capOp {t ty : TypeId} {x : Value} (h : capOk P t x) : (Builtin.cap_ #[t] ty #[x]).run P w = .ok (capV x) w := by
  unfold capOk at h
  split at h
  · obtain ⟨e, he⟩ := tag_slice h
    simp [Builtin.cap_, run_underlying he, capV, goInt]
  · exact h.elim

theorem setCells_length : ∀ (vs l : List Value) (off : Nat), (setCells l off vs).length = l.length
  | [], _, _ => rfl
  | v :: vs, l, off => by simp [setCells, setCells_length vs]

theorem zipIdx_setCells : ∀ (vs : List Value) (cs : Array Value) (off k : Nat), (vs.zipIdx k).foldl (fun cs (c, j) => cs.setIfInBounds (off + j) c) cs = (setCells cs.toList (off + k) vs).toArray
  | [], cs, off, k => by simp [setCells]
  | v :: vs, cs, off, k => by
    simp only [List.zipIdx_cons, List.foldl_cons, setCells]
    rw [zipIdx_setCells vs _ off (k + 1)]
    simp [Nat.add_assoc]

theorem fill_eq {place : Nat → Option (Nat × Nat)} {t : TypeId} : ∀ (parts : List (Nat × Value)) (cs : List Value),
    (∀ p ∈ parts, place p.1 = some (bplace P t p.1)) → fillOk P t cs.length parts → Instr.fill place cs.toArray parts = some (fillV P t cs parts).toArray
  | [], cs, _, _ => rfl
  | (i, v) :: r, cs, hp, hk => by
    obtain ⟨h1, h2, h3⟩ := hk
    have h4 := hp (i, v) (by simp)
    simp only at h4
    unfold Instr.fill
    rw [h4]
    simp only
    rw [if_neg (by simp only [List.size_toArray, ne_eq, Bool.or_eq_true, bne_iff_ne, decide_eq_true_eq, not_or]; exact ⟨by simp [h1], by omega⟩)]
    have h5 : Array.foldl (fun cs x => cs.setIfInBounds ((bplace P t i).1 + x.2) x.1) cs.toArray v.cells.zipIdx = (setCells cs (bplace P t i).1 v.cells.toList).toArray := by
      have := zipIdx_setCells v.cells.toList cs.toArray (bplace P t i).1 0
      simp only [Nat.add_zero] at this
      rw [← Array.foldl_toList, Array.toList_zipIdx]
      exact this
    rw [h5]
    exact fill_eq r _ (fun p hp' => hp p (by simp [hp'])) (by rw [setCells_length]; exact h3)

theorem run_buildOp {t : TypeId} {parts : Array (Nat × Value)} (h : bldOk P t = true) (hi : ∀ p ∈ parts.toList, bldIx P t p.1) (hk : fillOk P t (zl P t).length parts.toList) :
    (Instr.build t parts).run P w = .ok (.agg (fillV P t (zl P t) parts.toList).toArray) w := by
  refine run_build w t parts _ ?_
  unfold bldOk at h
  simp only [Bool.and_eq_true] at h
  obtain ⟨h1, h2⟩ := h
  unfold zOk at h1
  obtain ⟨z, hz⟩ := Option.isSome_iff_exists.1 h1
  obtain ⟨it, hit, hz⟩ := Option.bind_eq_some_iff.1 hz
  have hzl : zl P t = z.cells.toList := by simp [zl, hit, hz]
  rw [hzl] at hk ⊢
  unfold Program.built
  rw [hit]
  split at h2
  · rename_i fs hfs
    rw [hfs]
    have hm : fs.toList.mapM (fun f => (P.info? f.type).map fun i => (f.offset, i.size)) = some (fs.toList.map fun f => (f.offset, P.cellsOf f.type)) := by
      generalize fs.toList = l at h2
      induction l with
      | nil => rfl
      | cons f l ih =>
        simp only [List.all_cons, Bool.and_eq_true] at h2
        obtain ⟨i, hi⟩ := Option.isSome_iff_exists.1 h2.1
        simp [List.mapM_cons, hi, ih h2.2, Program.cellsOf]
    simp only [hz, hm]
    refine fill_eq parts.toList z.cells.toList (fun p hp => ?_) hk
    have := hi p hp
    unfold bldIx at this
    rw [hfs] at this
    simp only at this
    simp [bplace, hfs, fld, this]
  · rename_i n e he
    obtain ⟨i, hi'⟩ := Option.isSome_iff_exists.1 h2
    rw [he]
    simp only [hz, hi']
    refine fill_eq parts.toList z.cells.toList (fun p hp => ?_) hk
    have h5 : P.elem t = e := by simp [Program.elem, he]
    simp [bplace, he, esz, h5, Program.cellsOf, hi']
  · cases h2

theorem arr1 {α : Type} {xs : Array α} (h : xs.size = 1) (d : α) : xs = #[xs.getD 0 d] := by
  obtain ⟨l⟩ := xs
  match l, h with
  | [x], _ => rfl

/-- ONE OPERATION THAT TURNS NO MEMORY. -/
theorem run_pure {ρ : Operand → Value} {o : Oper} (hp : isPure P o.op = true) (h : okOf P ρ o.op) : (execOp ρ o).run P w = .ok (.value (valOf P ρ o.op)) w := by
  unfold execOp
  generalize o.op = op at *
  cases op <;> (try (simp [isPure] at hp; done)) <;> simp only [okOf, valOf] at *
  case move x => rfl
  case assign x => rfl
  case pick c a b =>
    have : ∃ x, ρ c = .bool x := by
      unfold isB at h; split at h
      · exact ⟨_, by assumption⟩
      · exact h.elim
    obtain ⟨x, hx⟩ := this
    simp [hx, asBool, toB]
  case nilCheck x =>
    unfold ncOk at h
    split at h
    · rename_i a ha; simp [ha]
    · rename_i f a c hf; simp [hf]
    · exact h.elim
  case binOp op t x y yt => simp [run_eqGuard w x y h, run_binOp w h]
  case unOp op t x => simp [run_unary w h]
  case convert s d x => simp [run_convertOp w h]
  case makeFunc fn a c => simp [Instr.makeFunc]
  case slice t x l hh m =>
    simp only [isPure, Option.isNone_iff_eq_none] at hp
    subst hp
    simp [run_sliceOp w h]
  case fieldAddr s x i => simp [run_fieldAt w hp h]
  case field s x i => simp [run_fieldOp w hp h]
  case indexAddr t x i => simp [run_indexAtOp w h]
  case index t x i => simp [run_indexOp w h]
  case extract x i =>
    unfold exOk at h
    split at h
    · rename_i vs hvs
      simp [hvs, Instr.extract, exV, h]
    · exact h.elim
  case build t parts =>
    simp only [isPure, Bool.and_eq_true, List.all_eq_true, decide_eq_true_eq] at hp
    have := run_buildOp (P := P) (t := t) (parts := parts.map fun p => (p.1, ρ p.2)) w hp.1 (fun p hp' => by simp only [Array.toList_map, List.mem_map] at hp'; obtain ⟨q, hq, rfl⟩ := hp'; exact hp.2 q hq) (by simpa using h)
    simp only [Array.toList_map] at this
    simp [this]
  case call c =>
    obtain ⟨cal, xs, ts⟩ := c
    cases cal <;> (try (simp [isPure] at hp; done))
    rename_i b
    cases b <;> (try (simp [isPure] at hp; done)) <;> simp only at h <;> obtain ⟨h1, h2, h3⟩ := h
    · have k := run_capOp (P := P) w (ty := o.type) h3
      rw [arr1 h1 default, arr1 h2 0]
      simp only [List.size_toArray, Array.getD_eq_getD_getElem?, List.getElem?_toArray, List.getElem?_cons_zero, Option.getD_some] at k ⊢
      simp [resolve, invoke, builtin, k]
    · have k := run_lenOp (P := P) w (ty := o.type) h3
      rw [arr1 h1 default, arr1 h2 0]
      simp only [List.size_toArray, Array.getD_eq_getD_getElem?, List.getElem?_toArray, List.getElem?_cons_zero, Option.getD_some] at k ⊢
      simp [resolve, invoke, builtin, k]
end
end Go.Vc
