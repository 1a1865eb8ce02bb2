/- Data in memory: lists behind slices, read or grown. Nothing of any program stands here. -/
import Derived.Test.YtcjdbmcklemkkaaDoorVcSimp
import Derived.Laws.BytesString
import Derived.Laws.BytesArg
import Derived.DataElems
import Derived.Laws.IdiomStrings
import Derived.Laws.AppendOwn
import Derived.Lib.OthersKept
import Derived.Laws.RangeAny
import Derived.Laws.Tables
import Derived.Laws.RangeString
import Derived.Laws.BitsLemmas
namespace Go.Vc
open Go Go.RowKit
set_option linter.unusedSimpArgs false
set_option linter.unusedVariables false

/-- How an element stands in cells: how many, what they say (the blocks that they lead to are all in G), and that nothing but those blocks counts. -/
structure El (α : Type) where
  z : Nat
  rel : (Nat → Prop) → World → List Value → α → Prop
  len : ∀ {G w cs x}, rel G w cs x → cs.length = z
  frame : ∀ {G w w' cs x}, (∀ b, G b → w'.heap[b]? = w.heap[b]?) → rel G w cs x → rel G w' cs x
  mono : ∀ {G G' : Nat → Prop} {w cs x}, (∀ b, G b → G' b) → rel G w cs x → rel G' w cs x

/-- A bound on every length. -/
def big : Nat := 9223372036854775807

/-- The slice s holds the list l. -/
structure SlIs {α : Type} (E : El α) (G : Nat → Prop) (w : World) (s : Sl) (l : List α) : Prop where
  len : s.len = l.length
  cap : s.len ≤ s.cap
  big : s.len ≤ big
  at_ : s.len ≠ 0 → ∃ a, s.a = some a ∧ G a.block
  row : ∀ i (h : i < l.length), ∃ cs, rowAt w ((adr s.a).add (i * E.z)) cs ∧ E.rel G w cs l[i]

theorem rowAt_frame {w w' : World} {a : Addr} {cs : List Value} (h : rowAt w a cs) (hb : w'.heap[a.block]? = w.heap[a.block]?) : rowAt w' a cs := by
  intro i v hv
  have := h i v hv
  rw [← this]
  refine World.cell?_of_block ?_
  have : (a.add i).block = a.block := by unfold Addr.add; split <;> rfl
  rw [this]; exact hb

theorem add_block (a : Addr) (n : Nat) : (a.add n).block = a.block := by unfold Addr.add; split <;> rfl

theorem SlIs.frame {α : Type} {E : El α} {G : Nat → Prop} {w w' : World} {s : Sl} {l : List α} (h : SlIs E G w s l) (hf : ∀ b, G b → w'.heap[b]? = w.heap[b]?) : SlIs E G w' s l :=
  ⟨h.len, h.cap, h.big, h.at_, fun i hi => by
    obtain ⟨cs, h1, h2⟩ := h.row i hi
    refine ⟨cs, ?_, E.frame hf h2⟩
    obtain ⟨a, ha, hG⟩ := h.at_ (by have := h.len; omega)
    refine rowAt_frame h1 ?_
    rw [add_block, ha]
    exact hf _ hG⟩

theorem SlIs.mono {α : Type} {E : El α} {G G' : Nat → Prop} {w : World} {s : Sl} {l : List α} (h : SlIs E G w s l) (hg : ∀ b, G b → G' b) : SlIs E G' w s l :=
  ⟨h.len, h.cap, h.big, fun h0 => let ⟨a, h1, h2⟩ := h.at_ h0; ⟨a, h1, hg _ h2⟩, fun i hi => let ⟨cs, h1, h2⟩ := h.row i hi; ⟨cs, h1, E.mono hg h2⟩⟩

theorem SlIs.nil {α : Type} (E : El α) (G : Nat → Prop) (w : World) (c : Nat) (a : Option Addr) : SlIs E G w ⟨a, 0, c⟩ [] :=
  ⟨rfl, Nat.zero_le _, Nat.zero_le _, fun h => absurd rfl h, fun i h => by simp at h⟩

theorem SlIs.some_ {α : Type} {E : El α} {G : Nat → Prop} {w : World} {s : Sl} {l : List α} (h : SlIs E G w s l) {i : Nat} (hi : i < l.length) : s.a.isSome = true := by
  obtain ⟨a, h1, _⟩ := h.at_ (by have := h.len; omega)
  rw [h1]; rfl

/-! ### elements -/
def elInt (k : IntKind) : El Int where
  z := 1
  rel _ _ cs n := cs = [.int k n] ∧ k.wrap n = n
  len := fun h => by rw [h.1]; rfl
  frame := fun _ h => h
  mono := fun _ h => h
def elU8 : El UInt8 where
  z := 1
  rel _ _ cs n := cs = [.int .u8 n.toNat]
  len := fun h => by rw [h]; rfl
  frame := fun _ h => h
  mono := fun _ h => h
/-- A string, as its bytes. -/
def str (l : List UInt8) : ByteArray := ⟨l.toArray⟩
def elStr : El (List UInt8) where
  z := 1
  rel _ _ cs s := cs = [.string (str s)] ∧ s.length ≤ big
  len := fun h => by rw [h.1]; rfl
  frame := fun _ h => h
  mono := fun _ h => h
def elSl {α : Type} (E : El α) : El (List α) where
  z := 1
  rel G w cs l := ∃ s : Sl, cs = [s.v] ∧ SlIs E G w s l
  len := fun ⟨_, h, _⟩ => by rw [h]; rfl
  frame := fun hf ⟨s, h1, h2⟩ => ⟨s, h1, h2.frame hf⟩
  mono := fun hf ⟨s, h1, h2⟩ => ⟨s, h1, h2.mono hf⟩

theorem SlIs.int {k : IntKind} {G : Nat → Prop} {w : World} {s : Sl} {l : List Int} (h : SlIs (elInt k) G w s l) {i : Nat} (hi : i < l.length) : rowAt w ((adr s.a).add i) [.int k l[i]] ∧ k.wrap l[i] = l[i] := by
  obtain ⟨cs, h1, rfl, h2⟩ := h.row i hi
  simp only [elInt, Nat.mul_one] at h1
  exact ⟨h1, h2⟩
theorem SlIs.u8 {G : Nat → Prop} {w : World} {s : Sl} {l : List UInt8} (h : SlIs elU8 G w s l) {i : Nat} (hi : i < l.length) : rowAt w ((adr s.a).add i) [.int .u8 l[i].toNat] := by
  obtain ⟨cs, h1, rfl⟩ := h.row i hi
  simp only [elU8, Nat.mul_one] at h1
  exact h1
theorem SlIs.str {G : Nat → Prop} {w : World} {s : Sl} {l : List (List UInt8)} (h : SlIs elStr G w s l) {i : Nat} (hi : i < l.length) : rowAt w ((adr s.a).add i) [.string (str l[i])] ∧ l[i].length ≤ Vc.big := by
  obtain ⟨cs, h1, rfl, h2⟩ := h.row i hi
  simp only [elStr, Nat.mul_one] at h1
  exact ⟨h1, h2⟩

/-! ### strings -/
theorem str_size (l : List UInt8) : (str l).size = l.length := by simp [str, ByteArray.size]
theorem str_toList (l : List UInt8) : (str l).toList = l := by simp [str]
theorem lit_str (l : List UInt8) : (⟨l.toArray⟩ : ByteArray) = str l := rfl
theorem lit_toList (l : List UInt8) : ByteArray.toList ⟨⟨l⟩⟩ = l := str_toList l
theorem str_byteAt (l : List UInt8) (i : Nat) : byteAt (str l) i = l.getD i 0 := by simp [str, byteAt]
theorem str_append (a b : List UInt8) : str a ++ str b = str (a ++ b) := by
  apply ByteArray.ext; simp [str, ByteArray.data_append]
theorem str_extract (l : List UInt8) (i j : Nat) : (str l).extract i j = str ((l.drop i).take (j - i)) := by
  apply ByteArray.ext
  simp [str, ByteArray.data_extract]
theorem str_inj {a b : List UInt8} (h : str a = str b) : a = b := by
  have := congrArg ByteArray.toList h
  simpa [str_toList] using this
theorem eq_str (b : ByteArray) : b = str b.toList := by
  apply ByteArray.ext; rw [ByteArray.toList_eq]; simp [str]

/-! ### a slice of the call's own, which grows -/
/-- s is one of the call's own, in a block from B on that nothing else shares; its cells are cs (z of each element). -/
def Own (w : World) (B : Nat) (e : TypeId) (z : Nat) (s : Sl) (cs : List Value) : Prop := w.ownsRow B e z s.v s.len cs

theorem Own.nil (w : World) (B : Nat) (e : TypeId) (z : Nat) : Own w B e z ⟨none, 0, 0⟩ [] := World.ownsRow_nil w B e z

def Sl.blk (s : Sl) : Option Nat := s.v.ownBlock
theorem Own.lt {w : World} {B : Nat} {e : TypeId} {z : Nat} {s : Sl} {cs : List Value} (h : Own w B e z s cs) : ∀ k, s.blk = some k → B ≤ k ∧ k < w.heap.size := World.ownsRow.lt h
theorem Own.len {w : World} {B : Nat} {e : TypeId} {z : Nat} {s : Sl} {cs : List Value} (h : Own w B e z s cs) : cs.length = s.len * z := h.1

theorem ownsRow_sl {w : World} {B : Nat} {e : TypeId} {z : Nat} {v : Value} {n : Nat} {cs : List Value} (h : w.ownsRow B e z v n cs) : ∃ s : Sl, v = s.v ∧ s.len = n := by
  rcases h.2 with ⟨rfl, rfl⟩ | ⟨g, cap, cur, rfl, _⟩
  · exact ⟨⟨none, 0, 0⟩, rfl, rfl⟩
  · exact ⟨⟨some ⟨g, 0, none⟩, n, cap⟩, rfl, rfl⟩

theorem Own.kept {w w' : World} {B : Nat} {e : TypeId} {z : Nat} {s : Sl} {cs : List Value} {row : Option Nat} (h : Own w B e z s cs) (hg : w.grownBy w' row) (hne : s.blk = none ∨ s.blk ≠ row) : Own w' B e z s cs := World.ownsRow.kept h hg hne

theorem Own.alloc {w : World} {B : Nat} {e : TypeId} {z : Nat} {s : Sl} {cs : List Value} (h : Own w B e z s cs) (o : Obj) : Own (w.alloc o) B e z s cs := World.ownsRow.alloc h o

/-- What stays where only blocks from n on turn. -/
theorem Own.below {w w' : World} {B n : Nat} {e : TypeId} {z : Nat} {s : Sl} {cs : List Value} (h : Own w B e z s cs) (hb : Below n w w') (hn : w.heap.size ≤ n) : Own w' B e z s cs := by
  refine ⟨h.1, ?_⟩
  rcases h.2 with hl | ⟨g, cap, cur, h1, h2, h3, rest⟩
  · exact .inl hl
  · refine .inr ⟨g, cap, cur, h1, h2, ?_, rest⟩
    have : g < w.heap.size := (Array.getElem?_eq_some_iff.1 h3).1
    rw [hb.block g (by omega)]; exact h3

theorem append_own {P : Program} {t ty : TypeId} {w : World} {B : Nat} {e : TypeId} {z : Nat} {s x : Sl} {cs news : List Value} (h1 : isSlc P t = true) (h2 : P.elem t = e) (h3 : esz P t = z) (hz : zOk P e = true) (hzp : 0 < z)
    (hby : P.bytesOf e ≤ 1024) (hzs : (zl P e).length = z)
    (hown : Own w B e z s cs) (hx : ∃ a, x.a = some a) (hl : news.length = x.len * z) (hnews : rowAt w (adr x.a) news) (hone : ∀ u ∈ news, u.oneCell' = true)
    (hn : s.len + x.len ≤ 100000000000) (hB : B ≤ w.heap.size) :
    ∃ (s' : Sl) (w' : World), (Builtin.append_ #[t, t] ty #[s.v, x.v]).run P w = .ok s'.v w' ∧ Own w' B e z s' (cs ++ news) ∧ s'.len = s.len + x.len ∧ w.grownBy w' s.blk ∧ (s'.a = none ↔ s.a = none ∧ x.len = 0) := by
  obtain ⟨h5, h6⟩ := isSlc_spec h1
  rw [h2] at h5 h6
  obtain ⟨i, hi⟩ := Option.isSome_iff_exists.1 h6
  have hz' : i.zero.isSome = true := by unfold zOk at hz; rw [hi] at hz; exact hz
  obtain ⟨zv, hzv⟩ := Option.isSome_iff_exists.1 hz'
  obtain ⟨a, hxa⟩ := hx
  have hsz : i.size = z := by have : esz P t = i.size := by simp [esz, h2, Program.cellsOf, hi]
                              omega
  have hbb : i.bytes ≤ 1024 := by have : P.bytesOf e = i.bytes := by simp [Program.bytesOf, hi]
                                  omega
  have hzc : zv.cells.size = z := by have : zl P e = zv.cells.toList := by simp [zl, hi, hzv]
                                     rw [this] at hzs; simpa using hzs
  obtain ⟨v', w', hr, ho, hg, hnil⟩ := run_append_own (P := P) w B t ty e i zv z i.bytes h5 hi hzv hsz rfl hzc hzp s.v s.len cs hown a x.len x.cap news hl (fun j u hu => by have := hnews j u hu; rw [hxa] at this; exact this) hone
    (by unfold maxLen; omega) (by have := Nat.mul_le_mul hn hbb; omega) hB
  obtain ⟨s', rfl, hs'⟩ := ownsRow_sl ho
  refine ⟨s', w', ?_, ?_, hs', hg, ?_⟩
  · have : x.v = .slice (some a) x.len x.cap := by simp [Sl.v, hxa]
    rw [this]; exact hr
  · unfold Own; rw [hs']; exact ho
  · constructor
    · intro h0
      have hv' : s'.v = .slice none 0 0 := by
        rcases ho.2 with ⟨hh, _⟩ | ⟨g, cap, cur, hh, _⟩
        · exact hh
        · simp [Sl.v, h0] at hh
      have := hnil.1 hv'
      exact ⟨by have h9 := this.1; simp [Sl.v] at h9; exact h9.1, this.2⟩
    · rintro ⟨h0, h9⟩
      have hv : s.v = .slice none 0 0 := by
        rcases hown.2 with ⟨hh, _⟩ | ⟨g, cap, cur, hh, _⟩
        · exact hh
        · simp [Sl.v, h0] at hh
      have := hnil.2 ⟨hv, h9⟩
      simp [Sl.v] at this; exact this.1

/-- What an append asks of its types: the slice's, the element's, how many cells an element has. -/
structure AppOk (P : Program) (t e z : Nat) : Prop where
  slc : isSlc P t = true
  elem : P.elem t = e
  esz : esz P t = z
  zok : zOk P e = true
  pos : 0 < z
  bytes : P.bytesOf e ≤ 1024
  zl : (zl P e).length = z

theorem grownBy_trans {a b c : World} {row : Option Nat} (h : a.grownBy b row) (k : b.grownBy c row) : a.grownBy c row :=
  ⟨k.os.trans h.os, k.tape.trans h.tape, k.output.trans h.output, Nat.le_trans h.size k.size, fun i hi hr => (k.block i (Nat.lt_of_lt_of_le hi h.size) hr).trans (h.block i hi hr)⟩

/-- 'append(s, x)', x one element. -/
theorem append1 {P : Program} {t ty e z : Nat} (A : AppOk P t e z) {w : World} {B : Nat} {s : Sl} {cs : List Value} (hown : Own w B e z s cs) (c : List Value) (hc : c.length = z) (hone : ∀ u ∈ c, u.oneCell' = true) (hl : s.len ≤ 10000000000) (hB : B ≤ w.heap.size) :
    ∃ (s' : Sl) (w' : World), (Builtin.append_ #[t, t] ty #[s.v, Sl.v ⟨some ⟨w.heap.size, 0, none⟩, 1, 1⟩]).run P (w.alloc (.cells c.toArray e)) = .ok s'.v w' ∧ Own w' B e z s' (cs ++ c) ∧ s'.len = s.len + 1 ∧ w.grownBy w' s.blk := by
  obtain ⟨s', w', h1, h2, h3, h4, _⟩ := append_own (P := P) (t := t) (ty := ty) (x := ⟨some ⟨w.heap.size, 0, none⟩, 1, 1⟩) (news := c) A.slc A.elem A.esz A.zok A.pos A.bytes A.zl
    (hown.alloc (.cells c.toArray e)) ⟨_, rfl⟩ (by simpa using hc) (fun i v hv => by rw [adr, Option.getD_some, Addr.add_lit, Nat.zero_add, World.cell?_alloc_new]; simpa using hv) hone (by simp; omega) (by simp; omega)
  exact ⟨s', w', h1, h2, h3, grownBy_trans (World.grownBy_alloc w _ _) h4⟩

theorem Own.B {w w' : World} {B : Nat} {e : TypeId} {z : Nat} {s : Sl} {cs : List Value} (h : Own w B e z s cs) (hg : w.grownBy w' s.blk) (hB : B ≤ w.heap.size) : Below B w w' := (Below.refl B w).grown hg hB (fun k hk => (h.lt k hk).1)

/-- A grown slice is a list. -/
theorem Own.is {α : Type} {E : El α} {G : Nat → Prop} {w : World} {B : Nat} {e : TypeId} {s : Sl} {l : List α} {css : List (List Value)} (h : Own w B e E.z s css.flatten) (hG : ∀ k, s.blk = some k → G k) (hb : l.length ≤ big) (hz : 0 < E.z)
    (hl : css.length = l.length) (he : ∀ i (hi : i < l.length) (hi' : i < css.length), E.rel G w css[i] l[i]) : SlIs E G w s l := by
  have hfl : ∀ (css : List (List Value)) (l : List α), css.length = l.length → (∀ i (hi : i < l.length) (hi' : i < css.length), E.rel G w css[i] l[i]) → css.flatten.length = l.length * E.z := by
    intro css
    induction css with
    | nil => intro l hl _; cases l with | nil => simp | cons _ _ => simp at hl
    | cons c css ih =>
      intro l hl he
      cases l with
      | nil => simp at hl
      | cons x l =>
        have h0 := E.len (he 0 (by simp) (by simp))
        simp only [List.getElem_cons_zero] at h0
        have := ih l (by simpa using hl) (fun i hi hi' => by have := he (i + 1) (by simpa using hi) (by simpa using hi'); simpa using this)
        simp only [List.flatten_cons, List.length_append, List.length_cons, Nat.add_mul, Nat.one_mul]
        omega
  have hlen : s.len = l.length := by
    have h1 := h.len
    rw [hfl css l hl he] at h1
    exact (Nat.eq_of_mul_eq_mul_right hz h1).symm
  have hdrop : ∀ (css : List (List Value)) (i : Nat) (hi : i < css.length), (∀ c ∈ css, c.length = E.z) → ∀ j v, css[i][j]? = some v → css.flatten[i * E.z + j]? = some v := by
    intro css
    induction css with
    | nil => intro i hi; simp at hi
    | cons c css ih =>
      intro i hi hc j v hv
      have hcl := hc c (by simp)
      cases i with
      | zero =>
        simp only [List.getElem_cons_zero, Nat.zero_mul, Nat.zero_add, List.flatten_cons] at hv ⊢
        rw [List.getElem?_append_left (by have := (List.getElem?_eq_some_iff.1 hv).1; omega)]
        exact hv
      | succ i =>
        simp only [List.getElem_cons_succ, List.flatten_cons] at hv ⊢
        rw [List.getElem?_append_right (by rw [hcl, Nat.add_mul]; omega), hcl]
        have : (i + 1) * E.z + j - E.z = i * E.z + j := by rw [Nat.add_mul]; omega
        rw [this]
        exact ih i (by simpa using hi) (fun c' hc' => hc c' (by simp [hc'])) j v hv
  have hcz : ∀ c ∈ css, c.length = E.z := by
    intro c hc
    obtain ⟨i, hi, rfl⟩ := List.mem_iff_getElem.1 hc
    exact E.len (he i (by omega) hi)
  have hat : s.len ≠ 0 → ∃ g, s.a = some ⟨g, 0, none⟩ ∧ s.blk = some g := by
    intro h0
    rcases h.2 with ⟨_, hh⟩ | ⟨g, cap, cur, hh, _⟩
    · exact absurd hh h0
    · refine ⟨g, ?_, ?_⟩
      · simp only [Sl.v, Value.slice.injEq] at hh; exact hh.1
      · simp [Sl.blk, hh, Value.ownBlock]
  refine ⟨hlen, ?_, by omega, fun h0 => ?_, fun i hi => ?_⟩
  · rcases h.2 with ⟨_, hh⟩ | ⟨g, cap, cur, hh, _, _, h7, _⟩
    · omega
    · simp only [Sl.v, Value.slice.injEq] at hh; omega
  · obtain ⟨g, h1, h2⟩ := hat h0
    exact ⟨_, h1, hG g h2⟩
  · obtain ⟨g, h1, h2⟩ := hat (by omega)
    refine ⟨css[i]'(by omega), ?_, he i hi (by omega)⟩
    intro j v hv
    have h3 := World.ownsRow.cells h (g := g) h2 (i * E.z + j) v (hdrop css i (by omega) hcz j v hv)
    rw [h1, adr, Option.getD_some, Addr.add_add]
    exact h3

theorem Own.is1 {α : Type} {E : El α} {G : Nat → Prop} {w : World} {B : Nat} {e : TypeId} {s : Sl} {l : List α} {f : α → Value} (h : Own w B e 1 s (l.map f)) (hG : ∀ k, s.blk = some k → G k) (hb : l.length ≤ big) (hz : E.z = 1)
    (he : ∀ x ∈ l, E.rel G w [f x] x) : SlIs E G w s l := by
  have h' : Own w B e E.z s (l.map fun x => [f x]).flatten := by
    rw [hz]
    have : (l.map fun x => [f x]).flatten = l.map f := by
      clear h hb he
      induction l with
      | nil => rfl
      | cons x l ih => simp [ih]
    rw [this]; exact h
  exact h'.is hG hb (by omega) (by simp) (fun i hi hi' => by simpa using he l[i] (List.getElem_mem hi))

/-! ### bytes to a string -/
theorem conv_bytes {P : Program} {w : World} {t d : TypeId} {s : Sl} {l : List UInt8} {B : Nat} {e : TypeId} (ht : P.underlying t = some (.slice e)) (he : P.underlying e = some (.int .u8)) (hd : P.underlying d = some .string) (h : Own w B e 1 s (l.map fun c => .int .u8 c.toNat)) :
    (convert t d s.v).run P w = .ok (.string (str l)) w := by
  have hlen := h.len
  simp only [List.length_map, Nat.mul_one] at hlen
  unfold Sl.v
  rw [run_convert_bytes_string w t d e s.a s.len s.cap ht he hd]
  show (Conv.bytesToString s.v).run P w = _
  rcases h.2 with ⟨hh, h0⟩ | ⟨g, cap, cur, hh, _⟩
  · have : l = [] := List.eq_nil_of_length_eq_zero (by omega)
    subst this
    rw [hh]; rfl
  · have hblk : s.v.ownBlock = some g := by rw [hh]; rfl
    have hc := World.ownsRow.cells h hblk
    rw [hh]
    have k := run_loadCellsFrom (P := P) w ⟨g, 0, none⟩ (l.map fun c => Value.int .u8 c.toNat) 0 #[] (fun j v hj => by rw [Nat.zero_add]; exact hc j v hj)
    simp only [List.length_map, hlen] at k
    have e1 : (l.map fun c => Value.int .u8 c.toNat) = (l.map fun c => (c.toNat : Int)).map (Value.int .u8) := by simp
    rw [e1] at k
    rw [run_bytesToString w ⟨g, 0, none⟩ s.len cap (l.map fun c => (c.toNat : Int)) (by simpa [loadCells] using k), foldl_push_bytes]
    congr 2
    apply ByteArray.ext
    simp only [str, List.map_map]
    have : (l.map ((fun n : Int => UInt8.ofNat n.toNat) ∘ fun c : UInt8 => (c.toNat : Int))) = l := by
      conv => rhs; rw [← List.map_id l]
      apply List.map_congr_left; intro c _; simp
    rw [this]; simp

theorem SlIs.cells_u8 {G : Nat → Prop} {w : World} {s : Sl} {l : List UInt8} (h : SlIs elU8 G w s l) : rowAt w (adr s.a) (l.map fun c => .int .u8 c.toNat) := by
  intro i v hv
  rw [List.getElem?_map] at hv
  obtain ⟨c, hc, rfl⟩ := Option.map_eq_some_iff.1 hv
  obtain ⟨hi, rfl⟩ := List.getElem?_eq_some_iff.1 hc
  have := h.u8 hi 0 _ rfl
  rwa [Addr.add_zero'] at this

theorem conv_bytes_is {P : Program} {w : World} {t d : TypeId} {s : Sl} {l : List UInt8} {G : Nat → Prop} {e : TypeId} (ht : P.underlying t = some (.slice e)) (he : P.underlying e = some (.int .u8)) (hd : P.underlying d = some .string) (h : SlIs elU8 G w s l) :
    (convert t d s.v).run P w = .ok (.string (str l)) w := by
  have hlen := h.len
  unfold Sl.v
  rw [run_convert_bytes_string w t d e s.a s.len s.cap ht he hd]
  by_cases h0 : s.len = 0
  · have : l = [] := List.eq_nil_of_length_eq_zero (by omega)
    subst this
    cases ha : s.a with
    | none => rfl
    | some a =>
      rw [h0]
      rw [run_bytesToString w a 0 s.cap [] (by simp [loadCells, loadCellsFrom])]
      rfl
  · obtain ⟨a, ha, _⟩ := h.at_ h0
    have hc := h.cells_u8
    rw [ha, adr, Option.getD_some] at hc
    have k := run_loadCellsFrom (P := P) w a (l.map fun c => Value.int .u8 c.toNat) 0 #[] (fun j v hj => by rw [Nat.zero_add]; exact hc j v hj)
    simp only [List.length_map, ← hlen] at k
    have e1 : (l.map fun c => Value.int .u8 c.toNat) = (l.map fun c => (c.toNat : Int)).map (Value.int .u8) := by simp
    rw [e1] at k
    rw [ha, run_bytesToString w a s.len s.cap (l.map fun c => (c.toNat : Int)) (by simpa [loadCells] using k), foldl_push_bytes]
    congr 2
    apply ByteArray.ext
    simp only [str, List.map_map]
    have : (l.map ((fun n : Int => UInt8.ofNat n.toNat) ∘ fun c : UInt8 => (c.toNat : Int))) = l := by
      conv => rhs; rw [← List.map_id l]
      apply List.map_congr_left; intro c _; simp
    rw [this]; simp

/-! ### bytes -/
def u8c (c : UInt8) : Value := .int .u8 c.toNat
theorem u8c_ofNat {c : Int} (h0 : 0 ≤ c) (h1 : c < 256) : Value.int .u8 c = u8c (UInt8.ofNat c.toNat) := by
  have : (UInt8.ofNat c.toNat).toNat = c.toNat := by rw [UInt8.toNat_ofNat']; omega
  simp only [u8c, this]; congr 1; omega
theorem map_snoc {α β : Type} (f : α → β) (l : List α) (x : α) : (l ++ [x]).map f = l.map f ++ [f x] := by simp

theorem wrap_i64 {n : Int} (h0 : -9223372036854775808 ≤ n) (h1 : n < 9223372036854775808) : IntKind.i64.wrap n = n := by rw [IntKind.wrap_i64]; omega
theorem wrap_i32 {n : Int} (h0 : -2147483648 ≤ n) (h1 : n < 2147483648) : IntKind.i32.wrap n = n := by rw [IntKind.wrap_i32]; omega
theorem wrap_u8 {n : Int} (h0 : 0 ≤ n) (h1 : n < 256) : IntKind.u8.wrap n = n := by rw [IntKind.wrap_u8]; omega
theorem take_snoc' {α : Type} (l : List α) (i : Nat) (h : i < l.length) : l.take (i + 1) = l.take i ++ [l[i]] := List.take_succ_eq_append_getElem h

/-! ### the usual case: data that stays while only new blocks are written -/
/-- Only blocks that are new have turned. -/
def Kept (w w' : World) : Prop := Below w.heap.size w w'
theorem Kept.refl (w : World) : Kept w w := Below.refl _ _
theorem Kept.size {w w' : World} (h : Kept w w') : w.heap.size ≤ w'.heap.size := Below.size h
theorem Kept.trans {a b c : World} (h : Kept a b) (k : Kept b c) : Kept a c := Below.trans h (Below.mono k h.size)
theorem Kept.drew {a w : World} (h : Kept a w) : Kept a w.drew := Below.drew h
theorem Kept.alloc {a w : World} (h : Kept a w) (o : Obj) : Kept a (w.alloc o) := Below.alloc h h.size o
theorem Kept.own {W w w' : World} {e : TypeId} {z : Nat} {s : Sl} {cs : List Value} (h : Kept W w) (ho : Own w W.heap.size e z s cs) (hg : w.grownBy w' s.blk) : Kept W w' := Below.grown h hg h.size (fun k hk => (ho.lt k hk).1)
theorem Kept.below {a w : World} (h : Kept a w) : Below a.heap.size a w := h

/-- The slice s holds the list l, all in blocks that are there. -/
def Is {α : Type} (E : El α) (w : World) (s : Sl) (l : List α) : Prop := SlIs E (· < w.heap.size) w s l
theorem Is.keep {α : Type} {E : El α} {w w' : World} {s : Sl} {l : List α} (h : Is E w s l) (hk : Kept w w') : Is E w' s l :=
  (SlIs.frame h (fun b hb => hk.block b hb)).mono (fun b hb => Nat.lt_of_lt_of_le hb hk.size)
theorem Is.len {α : Type} {E : El α} {w : World} {s : Sl} {l : List α} (h : Is E w s l) : s.len = l.length := SlIs.len h
theorem Is.big {α : Type} {E : El α} {w : World} {s : Sl} {l : List α} (h : Is E w s l) : l.length ≤ 9223372036854775807 := by have := SlIs.big h; rw [← h.len]; exact this
theorem Is.some_ {α : Type} {E : El α} {w : World} {s : Sl} {l : List α} (h : Is E w s l) {i : Nat} (hi : i < l.length) : s.a.isSome = true := SlIs.some_ h hi
theorem Is.nil {α : Type} (E : El α) (w : World) (c : Nat) (a : Option Addr) : Is E w ⟨a, 0, c⟩ [] := SlIs.nil E _ w c a
theorem Is.int {k : IntKind} {w : World} {s : Sl} {l : List Int} (h : Is (elInt k) w s l) {i : Nat} (hi : i < l.length) : rowAt w ((adr s.a).add i) [.int k l[i]] ∧ k.wrap l[i] = l[i] := SlIs.int h hi
theorem Is.u8 {w : World} {s : Sl} {l : List UInt8} (h : Is elU8 w s l) {i : Nat} (hi : i < l.length) : rowAt w ((adr s.a).add i) [.int .u8 l[i].toNat] := SlIs.u8 h hi
theorem Is.str {w : World} {s : Sl} {l : List (List UInt8)} (h : Is elStr w s l) {i : Nat} (hi : i < l.length) : rowAt w ((adr s.a).add i) [.string (Vc.str l[i])] ∧ l[i].length ≤ Vc.big := SlIs.str h hi
theorem Is.sl {α : Type} {E : El α} {w : World} {s : Sl} {l : List (List α)} (h : Is (elSl E) w s l) {i : Nat} (hi : i < l.length) : ∃ t : Sl, rowAt w ((adr s.a).add i) [t.v] ∧ Is E w t l[i] := by
  obtain ⟨cs, h1, t, rfl, h2⟩ := h.row i hi
  simp only [elSl, Nat.mul_one] at h1
  exact ⟨t, h1, h2⟩
theorem Own.isI {α : Type} {E : El α} {w : World} {B : Nat} {e : TypeId} {s : Sl} {l : List α} {f : α → Value} (h : Own w B e 1 s (l.map f)) (hb : l.length ≤ Vc.big) (hz : E.z = 1)
    (he : ∀ x ∈ l, E.rel (· < w.heap.size) w [f x] x) : Is E w s l := h.is1 (fun k hk => (h.lt k hk).2) hb hz he
theorem rowAt_keep {w w' : World} {a : Addr} {cs : List Value} (h : rowAt w a cs) (hk : Kept w w') (ha : a.block < w.heap.size) : rowAt w' a cs := rowAt_frame h (hk.block _ ha)
/-- A tail, or a part, of a slice. -/
theorem Is.blk {α : Type} {E : El α} {w : World} {s : Sl} {l : List α} (h : Is E w s l) (i : Nat) (hi : 0 < l.length) : ((adr s.a).add i).block < w.heap.size := by
  obtain ⟨a, ha, hb⟩ := h.at_ (by have := h.len; omega)
  rw [add_block, ha]; exact hb

/-! ### a slice that the call makes -/
/-- s is the call's own (the call began at W), it holds l, each element's cells as f says. -/
structure Mine {α : Type} (W w : World) (e z : Nat) (f : α → List Value) (s : Sl) (l : List α) : Prop where
  own : Own w W.heap.size e z s (l.flatMap f)
  kept : Kept W w
theorem Mine.nil {α : Type} {W w : World} (h : Kept W w) (e z : Nat) (f : α → List Value) : Mine W w e z f ⟨none, 0, 0⟩ [] := ⟨Own.nil _ _ _ _, h⟩
theorem flatMap_len {α : Type} {f : α → List Value} {z : Nat} (hz : ∀ x, (f x).length = z) : ∀ (l : List α), (l.flatMap f).length = l.length * z
  | [] => by simp
  | x :: l => by simp [List.flatMap_cons, flatMap_len hz l, hz x, Nat.add_mul, Nat.add_comm]
theorem Mine.len {α : Type} {W w : World} {e z : Nat} {f : α → List Value} {s : Sl} {l : List α} (h : Mine W w e z f s l) (hz : ∀ x, (f x).length = z) (hp : 0 < z) : s.len = l.length := by
  have := h.own.len
  rw [flatMap_len hz] at this
  exact (Nat.eq_of_mul_eq_mul_right hp this).symm
theorem Mine.keep {α : Type} {W w w' : World} {e z : Nat} {f : α → List Value} {s : Sl} {l : List α} (h : Mine W w e z f s l) (k : Kept w w') : Mine W w' e z f s l := ⟨h.own.below k (Nat.le_refl _), h.kept.trans k⟩
theorem Mine.alloc {α : Type} {W w : World} {e z : Nat} {f : α → List Value} {s : Sl} {l : List α} (h : Mine W w e z f s l) (o : Obj) : Mine W (w.alloc o) e z f s l := h.keep ((Kept.refl w).alloc o)
theorem Mine.app {α : Type} {P : Program} {t ty e z : Nat} (A : AppOk P t e z) {W w : World} {f : α → List Value} {s : Sl} {l : List α} (h : Mine W w e z f s l) (x : α) (hz : ∀ x, (f x).length = z) (hone : ∀ u ∈ f x, u.oneCell' = true) (hl : l.length ≤ 10000000000) :
    ∃ (s' : Sl) (w' : World), (Builtin.append_ #[t, t] ty #[s.v, Sl.v ⟨some ⟨w.heap.size, 0, none⟩, 1, 1⟩]).run P (w.alloc (.cells (f x).toArray e)) = .ok s'.v w' ∧ Mine W w' e z f s' (l ++ [x]) := by
  obtain ⟨s', w', h1, h2, h3, h4⟩ := append1 A h.own (f x) (hz x) hone (by have := h.len hz A.pos; omega) h.kept.size
  refine ⟨s', w', h1, ?_, h.kept.own h.own h4⟩
  simpa [List.flatMap_append] using h2
/-- Any own row, of one. -/
theorem Mine.is {α β : Type} {E : El β} {W w : World} {e : Nat} {f : α → List Value} {s : Sl} {l : List α} {l' : List β} (h : Mine W w e E.z f s l) (hz : ∀ x, (f x).length = E.z) (hp : 0 < E.z) (hb : l.length ≤ 1099511627776) (hl : l.length = l'.length)
    (he : ∀ i (hi : i < l.length) (hi' : i < l'.length), E.rel (· < w.heap.size) w (f l[i]) l'[i]) : Is E w s l' := by
  have h' : Own w W.heap.size e E.z s (l.map f).flatten := by rw [← List.flatMap_def]; exact h.own
  exact h'.is (fun k hk => (h.own.lt k hk).2) (by unfold Vc.big; omega) hp (by simpa using hl) (fun i hi hi' => by have := he i (by omega) hi; simpa using this)
def fU8 (c : UInt8) : List Value := [u8c c]
def fI32 (n : Int) : List Value := [.int .i32 n]
def fStr (s : List UInt8) : List Value := [.string (str s)]
def fSl (s : Sl) : List Value := [s.v]
theorem fU8_len (c : UInt8) : (fU8 c).length = 1 := rfl
theorem fI32_len (c : Int) : (fI32 c).length = 1 := rfl
theorem fStr_len (c : List UInt8) : (fStr c).length = 1 := rfl
theorem fSl_len (c : Sl) : (fSl c).length = 1 := rfl
theorem fU8_one (c : UInt8) : ∀ u ∈ fU8 c, u.oneCell' = true := by simp [fU8, u8c, Value.oneCell']
theorem fI32_one (c : Int) : ∀ u ∈ fI32 c, u.oneCell' = true := by simp [fI32, Value.oneCell']
theorem fStr_one (c : List UInt8) : ∀ u ∈ fStr c, u.oneCell' = true := by simp [fStr, Value.oneCell']
theorem fSl_one (c : Sl) : ∀ u ∈ fSl c, u.oneCell' = true := by simp [fSl, Sl.v, Value.oneCell']
theorem Mine.appU8 {P : Program} {t ty e : Nat} (A : AppOk P t e 1) {W w : World} {s : Sl} {l : List UInt8} (h : Mine W w e 1 fU8 s l) (x : UInt8) (hl : l.length ≤ 10000000000) :
    ∃ (s' : Sl) (w' : World), (Builtin.append_ #[t, t] ty #[s.v, Sl.v ⟨some ⟨w.heap.size, 0, none⟩, 1, 1⟩]).run P (w.alloc (.cells #[u8c x] e)) = .ok s'.v w' ∧ Mine W w' e 1 fU8 s' (l ++ [x]) := h.app A x fU8_len (fU8_one x) hl
theorem Mine.appU8i {P : Program} {t ty e : Nat} (A : AppOk P t e 1) {W w : World} {s : Sl} {l : List UInt8} (h : Mine W w e 1 fU8 s l) (x : Int) (h0 : 0 ≤ x) (h1 : x < 256) (hl : l.length ≤ 10000000000) :
    ∃ (s' : Sl) (w' : World), (Builtin.append_ #[t, t] ty #[s.v, Sl.v ⟨some ⟨w.heap.size, 0, none⟩, 1, 1⟩]).run P (w.alloc (.cells #[.int .u8 x] e)) = .ok s'.v w' ∧ Mine W w' e 1 fU8 s' (l ++ [UInt8.ofNat x.toNat]) := by
  rw [u8c_ofNat h0 h1]; exact h.appU8 A _ hl
theorem Mine.appI32 {P : Program} {t ty e : Nat} (A : AppOk P t e 1) {W w : World} {s : Sl} {l : List Int} (h : Mine W w e 1 fI32 s l) (x : Int) (hl : l.length ≤ 10000000000) :
    ∃ (s' : Sl) (w' : World), (Builtin.append_ #[t, t] ty #[s.v, Sl.v ⟨some ⟨w.heap.size, 0, none⟩, 1, 1⟩]).run P (w.alloc (.cells #[.int .i32 x] e)) = .ok s'.v w' ∧ Mine W w' e 1 fI32 s' (l ++ [x]) := h.app A x fI32_len (fI32_one x) hl
theorem Mine.appStr {P : Program} {t ty e : Nat} (A : AppOk P t e 1) {W w : World} {s : Sl} {l : List (List UInt8)} (h : Mine W w e 1 fStr s l) (x : List UInt8) (hl : l.length ≤ 10000000000) :
    ∃ (s' : Sl) (w' : World), (Builtin.append_ #[t, t] ty #[s.v, Sl.v ⟨some ⟨w.heap.size, 0, none⟩, 1, 1⟩]).run P (w.alloc (.cells #[.string (str x)] e)) = .ok s'.v w' ∧ Mine W w' e 1 fStr s' (l ++ [x]) := h.app A x fStr_len (fStr_one x) hl
theorem Mine.isU8 {W w : World} {e : Nat} {s : Sl} {l : List UInt8} (h : Mine W w e 1 fU8 s l) (hb : l.length ≤ 1099511627776) : Is elU8 w s l := Mine.is (E := elU8) h fU8_len (by decide) hb rfl (fun i hi hi' => rfl)
theorem Mine.isI32 {W w : World} {e : Nat} {s : Sl} {l : List Int} (h : Mine W w e 1 fI32 s l) (hb : l.length ≤ 1099511627776) (hr : ∀ x ∈ l, IntKind.i32.wrap x = x) : Is (elInt .i32) w s l := Mine.is (E := elInt .i32) h fI32_len (by decide) hb rfl (fun i hi hi' => ⟨rfl, hr _ (List.getElem_mem hi)⟩)
theorem Mine.isStr {W w : World} {e : Nat} {s : Sl} {l : List (List UInt8)} (h : Mine W w e 1 fStr s l) (hb : l.length ≤ 1099511627776) (hr : ∀ x ∈ l, x.length ≤ Vc.big) : Is elStr w s l := Mine.is (E := elStr) h fStr_len (by decide) hb rfl (fun i hi hi' => ⟨rfl, hr _ (List.getElem_mem hi)⟩)
theorem flatMap_fU8 : ∀ (l : List UInt8), l.flatMap fU8 = l.map fun c => Value.int .u8 c.toNat
  | [] => rfl
  | c :: l => by simp [List.flatMap_cons, flatMap_fU8 l, fU8, u8c]
theorem Mine.conv {P : Program} {W w : World} {t d : TypeId} {s : Sl} {l : List UInt8} {e : TypeId} (ht : P.underlying t = some (.slice e)) (he : P.underlying e = some (.int .u8)) (hd : P.underlying d = some .string) (h : Mine W w e 1 fU8 s l) :
    (convert t d s.v).run P w = .ok (.string (str l)) w := by
  refine conv_bytes (B := W.heap.size) ht he hd ?_
  rw [← flatMap_fU8]; exact h.own

/-! ### a string to bytes; a string's runes -/
theorem conv_str_bytes {P : Program} (w : World) {src dst e : TypeId} (l : List UInt8) (hs : P.underlying src = some .string) (hd : P.underlying dst = some (.slice e)) (he : P.underlying e = some (.int .u8)) (hl : l.length ≤ 1099511627776) :
    ∃ (s : Sl) (w' : World), (convert src dst (.string (str l))).run P w = .ok s.v w' ∧ Is elU8 w' s l ∧ Kept w w' := by
  refine ⟨⟨some ⟨w.heap.size, 0, none⟩, (str l).size, _⟩, _, run_bytes_of_string w src dst e (str l) hs hd he, ⟨str_size l, grownCap_ge _ _ _ _, by simp only [str_size]; unfold Vc.big; omega, fun _ => ⟨_, rfl, by simp [World.alloc]⟩, fun i hi => ?_⟩, (Kept.refl w).drew.alloc _⟩
  refine ⟨_, ?_, rfl⟩
  intro j v hv
  have hj : j = 0 := by
    cases j with
    | zero => rfl
    | succ j => simp at hv
  subst hj
  simp only [adr, Option.getD_some, Addr.add_lit, elU8, Nat.mul_one, Nat.add_zero, Nat.zero_add]
  have : ∀ (C : Array Value) (fz : Nat × Nat), (w.drew.alloc (.cells C e fz)).cell? ⟨w.heap.size, i, none⟩ = C[i]? := by
    intro C fz
    have h1 : (w.drew.alloc (.cells C e fz)).heap[w.heap.size]? = some (.cells C e fz) := by
      show (w.heap.push _)[w.heap.size]? = _
      simp
    unfold World.cell?
    rw [h1]; rfl
  rw [this, bytesRow, Array.getElem?_append_left (by simp [str]; exact hi)]
  simp only [List.getElem?_cons_zero, Option.some.injEq] at hv
  subst hv
  simp [str, List.getElem?_eq_getElem hi]

theorem decode_small (s : ByteArray) (pos : Nat) (h : pos < s.size) (ha : (byteAt s pos).toNat < 128) : Utf8.decode s pos = ((byteAt s pos).toNat, 1) := by
  have e : byteAt s pos = s[pos]'h := by
    have : pos < s.data.size := h
    simp [byteAt, Array.getD_eq_getD_getElem?, Array.getElem?_eq_getElem this]; rfl
  rw [e] at ha ⊢
  exact decode_ascii s pos h ha
theorem decode_big (s : ByteArray) (pos : Nat) (h : pos < s.size) (ha : 128 ≤ (byteAt s pos).toNat) : 128 ≤ (Utf8.decode s pos).1 := by
  have e : (s.get! (pos + 0)) = byteAt s pos := by
    have : pos < s.data.size := h
    simp only [Nat.add_zero, ByteArray.get!, byteAt, Array.getD_eq_getD_getElem?, Array.getElem?_eq_getElem this, Option.getD_some]
    exact getElem!_pos s.data pos this
  simp only [Utf8.decode, e]
  rw [if_neg (by omega)]
  repeat' split
  all_goals simp_all [Utf8.runeError]
  all_goals omega

/-! ### something else of the call's own stands beside a slice that grows -/
theorem Mine.appG {α : Type} {P : Program} {t ty e z : Nat} (A : AppOk P t e z) {W w : World} {f : α → List Value} {s : Sl} {l : List α} (h : Mine W w e z f s l) (x : α) (hz : ∀ x, (f x).length = z) (hone : ∀ u ∈ f x, u.oneCell' = true) (hl : l.length ≤ 10000000000) :
    ∃ (s' : Sl) (w' : World), (Builtin.append_ #[t, t] ty #[s.v, Sl.v ⟨some ⟨w.heap.size, 0, none⟩, 1, 1⟩]).run P (w.alloc (.cells (f x).toArray e)) = .ok s'.v w' ∧ Mine W w' e z f s' (l ++ [x]) ∧ w.grownBy w' s.blk := by
  obtain ⟨s', w', h1, h2, h3, h4⟩ := append1 A h.own (f x) (hz x) hone (by have := h.len hz A.pos; omega) h.kept.size
  refine ⟨s', w', h1, ⟨?_, h.kept.own h.own h4⟩, h4⟩
  simpa [List.flatMap_append] using h2
/-- An object that is no row stays where a slice grows. -/
theorem Mine.other {α : Type} {W w w' : World} {e z : Nat} {f : α → List Value} {s : Sl} {l : List α} (h : Mine W w e z f s l) (hg : w.grownBy w' s.blk) {k : Nat} {o : Obj} (hk : w.heap[k]? = some o) (ho : ∀ c t fz, o ≠ .cells c t fz) : w'.heap[k]? = some o := by
  have hlt : k < w.heap.size := (Array.getElem?_eq_some_iff.1 hk).1
  rw [hg.block k hlt, hk]
  intro hb
  rcases h.own.2 with ⟨hv, _⟩ | ⟨g, cap, cur, hv, hg', hh, _⟩
  · rw [Sl.blk, hv] at hb; cases hb
  · rw [Sl.blk, hv] at hb
    simp only [Value.ownBlock, Option.some.injEq] at hb
    subst hb
    rw [hk] at hh
    simp only [Option.some.injEq] at hh
    exact ho _ _ _ hh
theorem Mine.iterAt {α : Type} {W w : World} {e z : Nat} {f : α → List Value} {s : Sl} {l : List α} (h : Mine W w e z f s l) {k : Nat} {S : ByteArray} {p : Nat} (hk : w.heap[k]? = some (.stringIter S p)) (hW : W.heap.size ≤ k) (p' : Nat) : Mine W (w.iterAt k S p') e z f s l := by
  have hg : w.grownBy (w.iterAt k S p') (some k) := ⟨rfl, rfl, rfl, by rw [Lib.iterAt_size]; exact Nat.le_refl _, fun i _ hi => Lib.iterAt_other w k i S p' (fun h => hi (by rw [h]))⟩
  refine ⟨h.own.kept hg ?_, Lib.below_iterAt h.kept hW S p'⟩
  rcases h.own.2 with ⟨hv, _⟩ | ⟨g, cap, cur, hv, hg', hh, _⟩
  · left; rw [Sl.blk, hv]; rfl
  · right
    rw [Sl.blk, hv]
    intro hb
    simp only [Value.ownBlock, Option.some.injEq] at hb
    subst hb
    rw [hk] at hh; cases hh

/-! ### a block that is written -/
/-- The block b holds these cells, none of which a string shares. -/
def Row (w : World) (b : Nat) (e : TypeId) (cs : List Value) : Prop := w.heap[b]? = some (.cells cs.toArray e (0, 0))
theorem Row.lt {w : World} {b : Nat} {e : TypeId} {cs : List Value} (h : Row w b e cs) : b < w.heap.size := (Array.getElem?_eq_some_iff.1 h).1
theorem Row.set {w : World} {b : Nat} {e : TypeId} {cs : List Value} (h : Row w b e cs) (cs' : List Value) : Row (w.setRow b cs'.toArray) b e cs' := setRow_heap w b cs.toArray cs'.toArray e _ h
theorem Row.cell {w : World} {b : Nat} {e : TypeId} {cs : List Value} (h : Row w b e cs) (i : Nat) : w.cell? ⟨b, i, none⟩ = cs[i]? := by
  unfold World.cell?; rw [show w.heap[b]? = _ from h]; simp
theorem Row.at_ {w : World} {b : Nat} {e : TypeId} {cs : List Value} (h : Row w b e cs) {i : Nat} {v : Value} (hv : cs[i]? = some v) : rowAt w ⟨b, i, none⟩ [v] := by
  intro j u hu
  cases j with
  | zero => simp only [List.getElem?_cons_zero, Option.some.injEq] at hu; subst hu; rw [Addr.add_lit, Nat.add_zero, h.cell]; exact hv
  | succ j => simp at hu
theorem Row.all {w : World} {b : Nat} {e : TypeId} {cs : List Value} (h : Row w b e cs) : rowAt w ⟨b, 0, none⟩ cs := by
  intro i v hv; rw [Addr.add_lit, Nat.zero_add, h.cell]; exact hv
theorem Row.keep {w w' : World} {b : Nat} {e : TypeId} {cs : List Value} (h : Row w b e cs) (k : Kept w w') : Row w' b e cs := (k.block b h.lt).trans h
theorem Row.new (w : World) (e : TypeId) (cs : List Value) : Row (w.alloc (.cells cs.toArray e)) w.heap.size e cs := by
  show (w.heap.push _)[w.heap.size]? = _
  simp
/-- All but the block b is as it was, and what is new. -/
structure KeptBut (b : Nat) (w w' : World) : Prop where
  os : w'.os = w.os
  tape : w'.tape = w.tape
  output : w'.output = w.output
  size : w.heap.size ≤ w'.heap.size
  block : ∀ k, k < w.heap.size → k ≠ b → w'.heap[k]? = w.heap[k]?
theorem KeptBut.refl (b : Nat) (w : World) : KeptBut b w w := ⟨rfl, rfl, rfl, Nat.le_refl _, fun _ _ _ => rfl⟩
theorem Kept.but {w w' : World} (h : Kept w w') (b : Nat) : KeptBut b w w' := ⟨h.os, h.tape, h.output, h.size, fun k hk _ => h.block k hk⟩
theorem KeptBut.trans {b : Nat} {x y z : World} (h : KeptBut b x y) (k : KeptBut b y z) : KeptBut b x z := ⟨k.os.trans h.os, k.tape.trans h.tape, k.output.trans h.output, Nat.le_trans h.size k.size, fun i hi hb => (k.block i (Nat.lt_of_lt_of_le hi h.size) hb).trans (h.block i hi hb)⟩
theorem KeptBut.drew {b : Nat} {a w : World} (h : KeptBut b a w) : KeptBut b a w.drew := h.trans ⟨rfl, rfl, rfl, Nat.le_refl _, fun _ _ _ => rfl⟩
theorem setRow_but (w : World) (b : Nat) (cs : Array Value) : KeptBut b w (w.setRow b cs) := ⟨rfl, rfl, rfl, by simp [World.setRow], fun k _ hb => by simp only [World.setRow, Array.getElem?_modify]; rw [if_neg (fun h => hb h.symm)]⟩
theorem KeptBut.kept {b : Nat} {W w w' : World} (h : Kept W w) (k : KeptBut b w w') (hb : W.heap.size ≤ b) : Kept W w' := ⟨k.os.trans h.os, k.tape.trans h.tape, k.output.trans h.output, Nat.le_trans h.size k.size, fun i hi => (k.block i (Nat.lt_of_lt_of_le hi h.size) (by omega)).trans (h.block i hi)⟩

theorem run_store1 {P : Program} {t e : TypeId} {w : World} {b o : Nat} {cs : List Value} {v : Value} (hi : (P.info? t).map (·.size) = some 1) (h : Row w b e cs) (ho : o < cs.length) (hv : v.oneCell' = true) :
    (Instr.storeAt t (.pointer (some ⟨b, o, none⟩)) v).run P w = .ok () (w.setRow b (cs.set o v).toArray) := by
  have hc : v.cells = #[v] := by cases v <;> first | rfl | (simp [Value.oneCell'] at hv; done)
  have h1 : (store ⟨b, o, none⟩ v).run P w = .ok () (w.setRow b (cs.set o v).toArray) := by
    have hcell : w.cell? ⟨b, o, none⟩ = some cs[o] := by rw [h.cell]; exact List.getElem?_eq_getElem ho
    have hfro : w.frozen? ⟨b, o, none⟩ = false := by simp [World.frozen?, show w.heap[b]? = _ from h]
    rw [run_store P w _ v _ hv, hcell]
    simp [hfro, setCell_eq_setRow w b o cs.toArray e (0, 0) v h]
  cases hq : P.info? t with
  | none => rw [hq] at hi; cases hi
  | some i =>
    rw [hq] at hi
    simp only [Option.map_some, Option.some.injEq] at hi
    simp [Instr.storeAt, Instr.sureAddr, storeVar, sizeOf, typeInfo, hq, hc, hi, storeCells, Addr.add_lit, h1]
theorem run_storeAll {P : Program} {t e : TypeId} {w : World} {b : Nat} {cs : List Value} {v : Value} {new : List Value} (hi : (P.info? t).map (·.size) = some new.length) (h : Row w b e cs) (hn : v = .agg new.toArray) (hl : cs.length = new.length) (hone : new.all (·.oneCell') = true) :
    (Instr.storeAt t (.pointer (some ⟨b, 0, none⟩)) v).run P w = .ok () (w.setRow b new.toArray) := by
  subst hn
  have := run_storeVar_row (P := P) w b e t cs.toArray new.toArray h (by simpa using hi) (by simpa using hl) (by simpa using hone)
  simp only [Instr.storeAt, Instr.sureAddr, Sem.run_bind, Sem.run_pure, Result.andThen_ok]
  exact this

/-! ### data that is new -/
/-- The slice s holds l, all in blocks that are new since W. -/
def New {α : Type} (E : El α) (W w : World) (s : Sl) (l : List α) : Prop := SlIs E (fun k => W.heap.size ≤ k ∧ k < w.heap.size) w s l
theorem New.is {α : Type} {E : El α} {W w : World} {s : Sl} {l : List α} (h : New E W w s l) : Is E w s l := SlIs.mono h (fun _ hb => hb.2)
theorem New.len {α : Type} {E : El α} {W w : World} {s : Sl} {l : List α} (h : New E W w s l) : s.len = l.length := SlIs.len h
theorem New.nil {α : Type} (E : El α) (W w : World) (c : Nat) (a : Option Addr) : New E W w ⟨a, 0, c⟩ [] := SlIs.nil E _ w c a
theorem New.keep {α : Type} {E : El α} {W w w' : World} {s : Sl} {l : List α} (h : New E W w s l) (k : Kept w w') : New E W w' s l :=
  (SlIs.frame h (fun b hb => k.block b hb.2)).mono (fun b hb => ⟨hb.1, Nat.lt_of_lt_of_le hb.2 k.size⟩)
theorem New.old {α : Type} {E : El α} {V W w : World} {s : Sl} {l : List α} (h : New E W w s l) (k : V.heap.size ≤ W.heap.size) : New E V w s l := SlIs.mono h (fun b hb => ⟨Nat.le_trans k hb.1, hb.2⟩)
/-- .. above a block. -/
def Above {α : Type} (b : Nat) (E : El α) (w : World) (s : Sl) (l : List α) : Prop := SlIs E (fun k => b < k ∧ k < w.heap.size) w s l
theorem New.above {α : Type} {E : El α} {W w : World} {s : Sl} {l : List α} (h : New E W w s l) {b : Nat} (hb : b < W.heap.size) : Above b E w s l := SlIs.mono h (fun _ k => ⟨Nat.lt_of_lt_of_le hb k.1, k.2⟩)
theorem Above.keep {α : Type} {b : Nat} {E : El α} {w w' : World} {s : Sl} {l : List α} (h : Above b E w s l) (k : KeptBut b w w') : Above b E w' s l :=
  (SlIs.frame h (fun c hc => k.block c hc.2 (by omega))).mono (fun c hc => ⟨hc.1, Nat.lt_of_lt_of_le hc.2 k.size⟩)
theorem Above.is {α : Type} {b : Nat} {E : El α} {w : World} {s : Sl} {l : List α} (h : Above b E w s l) : Is E w s l := SlIs.mono h (fun _ hb => hb.2)
theorem Above.new {α : Type} {b : Nat} {E : El α} {W w : World} {s : Sl} {l : List α} (h : Above b E w s l) (hb : W.heap.size ≤ b) : New E W w s l := SlIs.mono h (fun _ k => ⟨Nat.le_trans hb (Nat.le_of_lt k.1), k.2⟩)
theorem Above.nil {α : Type} (b : Nat) (E : El α) (w : World) (c : Nat) (a : Option Addr) : Above b E w ⟨a, 0, c⟩ [] := SlIs.nil E _ w c a

theorem Mine.new {α β : Type} {E : El β} {W w : World} {e : Nat} {f : α → List Value} {s : Sl} {l : List α} {l' : List β} (h : Mine W w e E.z f s l) (hz : ∀ x, (f x).length = E.z) (hp : 0 < E.z) (hb : l.length ≤ 1099511627776) (hl : l.length = l'.length)
    (he : ∀ i (hi : i < l.length) (hi' : i < l'.length), E.rel (fun k => W.heap.size ≤ k ∧ k < w.heap.size) w (f l[i]) l'[i]) : New E W w s l' := by
  have h' : Own w W.heap.size e E.z s (l.map f).flatten := by rw [← List.flatMap_def]; exact h.own
  exact h'.is (fun k hk => h.own.lt k hk) (by unfold Vc.big; omega) hp (by simpa using hl) (fun i hi hi' => by have := he i (by omega) hi; simpa using this)
theorem Mine.newU8 {W w : World} {e : Nat} {s : Sl} {l : List UInt8} (h : Mine W w e 1 fU8 s l) (hb : l.length ≤ 1099511627776) : New elU8 W w s l := Mine.new (E := elU8) h fU8_len (by decide) hb rfl (fun i hi hi' => rfl)
theorem Mine.newI32 {W w : World} {e : Nat} {s : Sl} {l : List Int} (h : Mine W w e 1 fI32 s l) (hb : l.length ≤ 1099511627776) (hr : ∀ x ∈ l, IntKind.i32.wrap x = x) : New (elInt .i32) W w s l := Mine.new (E := elInt .i32) h fI32_len (by decide) hb rfl (fun i hi hi' => ⟨rfl, hr _ (List.getElem_mem hi)⟩)
theorem Mine.newStr {W w : World} {e : Nat} {s : Sl} {l : List (List UInt8)} (h : Mine W w e 1 fStr s l) (hb : l.length ≤ 1099511627776) (hr : ∀ x ∈ l, x.length ≤ Vc.big) : New elStr W w s l := Mine.new (E := elStr) h fStr_len (by decide) hb rfl (fun i hi hi' => ⟨rfl, hr _ (List.getElem_mem hi)⟩)

theorem flatten_at {α : Type} {z : Nat} : ∀ (css : List (List α)) (i : Nat) (hi : i < css.length), (∀ c ∈ css, c.length = z) → ∀ j v, css[i][j]? = some v → css.flatten[i * z + j]? = some v
  | [], i, hi, _, _, _, _ => by simp at hi
  | c :: css, 0, hi, hc, j, v, hv => by
    simp only [List.getElem_cons_zero, Nat.zero_mul, Nat.zero_add, List.flatten_cons] at hv ⊢
    rw [List.getElem?_append_left (by have := (List.getElem?_eq_some_iff.1 hv).1; omega)]
    exact hv
  | c :: css, i + 1, hi, hc, j, v, hv => by
    have hcl := hc c (by simp)
    simp only [List.getElem_cons_succ, List.flatten_cons] at hv ⊢
    rw [List.getElem?_append_right (by rw [hcl, Nat.add_mul]; omega), hcl]
    have : (i + 1) * z + j - z = i * z + j := by rw [Nat.add_mul]; omega
    rw [this]
    exact flatten_at css i (by simpa using hi) (fun c' hc' => hc c' (by simp [hc'])) j v hv
/-- A slice literal's row. -/
theorem New.build {α : Type} {E : El α} {W w : World} (hW : W.heap.size ≤ w.heap.size) (e : TypeId) {l : List α} {cs : List Value} (css : List (List Value)) (hcs : cs = css.flatten) (n : Nat) (hn : n = l.length) (hb : l.length ≤ 1099511627776) (hl : css.length = l.length)
    (he : ∀ i (hi : i < l.length) (hi' : i < css.length), E.rel (fun k => W.heap.size ≤ k ∧ k < w.heap.size) w css[i] l[i]) : New E W (w.alloc (.cells cs.toArray e)) ⟨some ⟨w.heap.size, 0, none⟩, n, n⟩ l := by
  subst hcs; subst hn
  refine ⟨rfl, Nat.le_refl _, by unfold Vc.big; simp only; omega, fun _ => ⟨_, rfl, hW, by simp⟩, fun i hi => ⟨css[i]'(by omega), ?_, ?_⟩⟩
  · intro j v hv
    have hcz : ∀ c ∈ css, c.length = E.z := by
      intro c hc
      obtain ⟨k, hk, rfl⟩ := List.mem_iff_getElem.1 hc
      exact E.len (he k (by omega) hk)
    have := flatten_at css i (by omega) hcz j v hv
    rw [adr, Option.getD_some, Addr.add_add, Addr.add_lit, Nat.zero_add, World.cell?_alloc_new]
    simpa using this
  · have hk : Kept w (w.alloc (.cells css.flatten.toArray e)) := (Kept.refl w).alloc _
    exact E.mono (fun b hb => ⟨hb.1, Nat.lt_of_lt_of_le hb.2 hk.size⟩) (E.frame (fun b hb => hk.block b hb.2) (he i hi (by omega)))
theorem El.keep {α : Type} (E : El α) {V W w w' : World} {cs : List Value} {x : α} (h : E.rel (fun k => V.heap.size ≤ k ∧ k < w.heap.size) w cs x) (k : Kept w w') (hV : W.heap.size ≤ V.heap.size) : E.rel (fun k => W.heap.size ≤ k ∧ k < w'.heap.size) w' cs x :=
  E.mono (fun _ hb => ⟨Nat.le_trans hV hb.1, Nat.lt_of_lt_of_le hb.2 k.size⟩) (E.frame (fun b hb => k.block b hb.2) h)
section
variable {α : Type} {E : El α} {W w : World} (hW : W.heap.size ≤ w.heap.size) (e : TypeId)
include hW
theorem New.b1 {x1 : α} {c1 : List Value} (h1 : E.rel (fun k => W.heap.size ≤ k ∧ k < w.heap.size) w c1 x1) : New E W (w.alloc (.cells c1.toArray e)) ⟨some ⟨w.heap.size, 0, none⟩, 1, 1⟩ [x1] :=
  New.build hW e [c1] (by simp) 1 rfl (by simp) rfl (fun i hi hi' => by match i, hi with | 0, _ => exact h1)
theorem New.b2 {x1 x2 : α} {c1 c2 : List Value} (h1 : E.rel (fun k => W.heap.size ≤ k ∧ k < w.heap.size) w c1 x1) (h2 : E.rel (fun k => W.heap.size ≤ k ∧ k < w.heap.size) w c2 x2) : New E W (w.alloc (.cells (c1 ++ c2).toArray e)) ⟨some ⟨w.heap.size, 0, none⟩, 2, 2⟩ [x1, x2] :=
  New.build hW e [c1, c2] (by simp) 2 rfl (by simp) rfl (fun i hi hi' => by match i, hi with | 0, _ => exact h1 | 1, _ => exact h2)
theorem New.b4 {x1 x2 x3 x4 : α} {c1 c2 c3 c4 : List Value} (h1 : E.rel (fun k => W.heap.size ≤ k ∧ k < w.heap.size) w c1 x1) (h2 : E.rel (fun k => W.heap.size ≤ k ∧ k < w.heap.size) w c2 x2) (h3 : E.rel (fun k => W.heap.size ≤ k ∧ k < w.heap.size) w c3 x3) (h4 : E.rel (fun k => W.heap.size ≤ k ∧ k < w.heap.size) w c4 x4) :
    New E W (w.alloc (.cells (c1 ++ (c2 ++ (c3 ++ c4))).toArray e)) ⟨some ⟨w.heap.size, 0, none⟩, 4, 4⟩ [x1, x2, x3, x4] :=
  New.build hW e [c1, c2, c3, c4] (by simp) 4 rfl (by simp) rfl (fun i hi hi' => by match i, hi with | 0, _ => exact h1 | 1, _ => exact h2 | 2, _ => exact h3 | 3, _ => exact h4)
end
end Go.Vc
