/- What the rules' functions compute, in plain words; no program stands here. -/
import Derived.Test.YtcjdbmcklemkkaaDoorVcRep
namespace Go.Vc
open Go
set_option linter.unusedSimpArgs false
set_option linter.unusedVariables false

/-! ### runes -/
def plainB (n : Int) : Bool := n > 32 && n < 127 && n != 35 && n != 92
def isRuneB (n : Int) : Bool := n ≥ 0 && n ≤ 1114111 && (n < 55296 || n > 57343)
def hexd (n : Nat) : UInt8 := if n < 10 then UInt8.ofNat (48 + n) else UInt8.ofNat (87 + n)
def hexAt (r : Int) (k : Nat) : UInt8 := hexd (r.toNat / 16 ^ (5 - k) % 16)
def told1 (r : Int) : List UInt8 := if plainB r then [UInt8.ofNat r.toNat] else 92 :: (List.range 6).map (hexAt r)
def toldL (l : List Int) : List UInt8 := l.flatMap told1

theorem isRuneB_ok {r : Int} (h : isRuneB r = true) : 0 ≤ r ∧ r ≤ 1114111 := by simp [isRuneB] at h; omega
abbrev okRune (r : Int) : Prop := 0 ≤ r ∧ r ≤ 1114111
theorem toldL_snoc (l : List Int) (i : Nat) (h : i < l.length) : toldL (l.take (i + 1)) = toldL (l.take i) ++ told1 l[i] := by
  simp only [toldL]; rw [take_snoc' _ _ h, List.flatMap_append]; simp
theorem told1_len (r : Int) : (told1 r).length ≤ 7 := by unfold told1; split <;> simp
theorem toldL_len : ∀ (l : List Int), (toldL l).length ≤ 7 * l.length
  | [] => by simp [toldL]
  | r :: l => by have := toldL_len l; have := told1_len r; simp [toldL] at *; omega

/-- A hexadecimal digit's worth. -/
def hexV (c : UInt8) : Option Nat := if 48 ≤ c.toNat ∧ c.toNat ≤ 57 then some (c.toNat - 48) else if 97 ≤ c.toNat ∧ c.toNat ≤ 102 then some (c.toNat - 87) else none
/-- Six of them, behind what stands. -/
def hexGo : List UInt8 → Nat → Option Nat
  | [], n => some n
  | c :: l, n => match hexV c with | some d => hexGo l (n * 16 + d) | none => none
/-- The next rune of a text, and what stands behind it. -/
def rune1 : List UInt8 → Option (Int × List UInt8)
  | [] => none
  | c :: l => if plainB c.toNat = true then some (c.toNat, l) else
    if c = 92 ∧ 6 ≤ l.length then match hexGo (l.take 6) 0 with
      | some n => if plainB n = true ∨ isRuneB n = false then none else some (n, l.drop 6)
      | none => none
    else none
theorem rune1_lt {s : List UInt8} {r : Int} {t : List UInt8} (h : rune1 s = some (r, t)) : t.length < s.length := by
  cases s with
  | nil => cases h
  | cons c l =>
    simp only [rune1] at h
    split at h
    · cases h; simp
    · split at h
      · split at h
        · split at h
          · cases h
          · cases h; simp; omega
        · cases h
      · cases h
/-- The runes of a text (n: how far it is looked at). -/
def runesF : Nat → List UInt8 → Option (List Int)
  | _, [] => some []
  | 0, _ :: _ => none
  | n + 1, c :: l => match rune1 (c :: l) with
    | none => none
    | some (r, t) => (runesF n t).map (r :: ·)
def runesL (s : List UInt8) : Option (List Int) := runesF s.length s
theorem runesF_more : ∀ (n m : Nat) (s : List UInt8), s.length ≤ n → s.length ≤ m → runesF n s = runesF m s
  | 0, m, s, h, h' => by
    have : s = [] := List.eq_nil_of_length_eq_zero (by omega)
    subst this
    cases m <;> rfl
  | n + 1, 0, s, h, h' => by
    have : s = [] := List.eq_nil_of_length_eq_zero (by omega)
    subst this; rfl
  | n + 1, m + 1, [], _, _ => rfl
  | n + 1, m + 1, c :: l, h, h' => by
    simp only [runesF]
    cases h0 : rune1 (c :: l) with
    | none => rfl
    | some x =>
      obtain ⟨r, t⟩ := x
      have := rune1_lt h0
      simp only
      rw [runesF_more n m t (by simp at *; omega) (by simp at *; omega)]
theorem runesL_nil : runesL [] = some [] := rfl
theorem runesL_none {s : List UInt8} (h : s ≠ []) (h0 : rune1 s = none) : runesL s = none := by
  cases s with
  | nil => exact absurd rfl h
  | cons c l => simp only [runesL, List.length_cons, runesF, h0]
theorem runesL_some {s t : List UInt8} {r : Int} (h0 : rune1 s = some (r, t)) : runesL s = (runesL t).map (r :: ·) := by
  cases s with
  | nil => cases h0
  | cons c l =>
    have := rune1_lt h0
    simp only [runesL, List.length_cons, runesF, h0]
    rw [runesF_more l.length t.length t (by simp at this; omega) (by omega)]
/-- What the program's reading says. -/
def runesR (s : List UInt8) (most : Int) : List Int × Bool := match runesL s with
  | none => ([], false)
  | some l => (l, decide ((1 : Int) ≤ l.length) && decide ((l.length : Int) ≤ most))

/-! ### names -/
def isNameB (l : List UInt8) : Bool := decide ((1 : Int) ≤ l.length) && decide ((l.length : Int) ≤ 16) && l.all (fun c => 97 ≤ c.toNat && c.toNat ≤ 122)
def bangless (s : List UInt8) : List UInt8 := if ([33] : List UInt8).isPrefixOf s = true then s.drop 1 else s
def sideOf (s : List UInt8) : List UInt8 × Bool := if s = [42] then ([], true) else (s, isNameB (bangless s))
def starOf (s : List UInt8) : List UInt8 := if s = [] then [42] else s

/-! ### dots -/
structure PSt where
  l : List UInt8
  c : UInt8
  last : Int
  none_ : Bool
def pstep (x : PSt) (r : Int) : Option PSt :=
  if r = 45 ∧ x.last = 48 ∧ x.none_ = true then none
  else if r = 45 then some ⟨x.l ++ [x.c], 0, 48, true⟩
  else if r = 48 ∧ x.none_ = true then some ⟨x.l, x.c, 56, false⟩
  else if r > x.last ∧ r ≤ 56 ∧ (x.none_ = true ∨ x.last ≠ 56) then some ⟨x.l, x.c ||| (1 <<< UInt8.ofNat (r - 49).toNat), r, false⟩
  else none
def parseGo : List UInt8 → PSt → Option PSt
  | [], x => some x
  | b :: l, x => match pstep x b.toNat with | some y => parseGo l y | none => none
def parseDots (s : List UInt8) : List UInt8 × Int := if s = [] then ([], 0) else match parseGo (s ++ [45]) ⟨[], 0, 48, true⟩ with
  | none => ([], 5)
  | some x => (x.l, 0)
def dotsOf (c : UInt8) : List UInt8 := ((List.range 8).filter fun d => c.toNat / 2 ^ d % 2 == 1).map fun d => UInt8.ofNat (49 + d)
def cellOf (c : UInt8) : List UInt8 := (if c = 0 then [48] else []) ++ dotsOf c
def textDots : List UInt8 → List UInt8
  | [] => []
  | c :: l => cellOf c ++ l.flatMap fun c => 45 :: cellOf c

/-! ### rules -/
structure RuleV where
  kind : UInt8
  name : List UInt8
  text : List Int
  cells : List UInt8
  left : List UInt8
  right : List UInt8
  deriving DecidableEq
def RuleV.zero : RuleV := ⟨0, [], [], [], [], []⟩
/-! ### a rule in memory -/
def ruleCells (r : RuleV) (t c : Sl) : List Value := [.int .u8 r.kind.toNat, .string (str r.name), t.v, c.v, .string (str r.left), .string (str r.right)]
/-- The rule that a call fills, in the block b. -/
def RuleAt (b : Nat) (e : TypeId) (w : World) (r : RuleV) : Prop := ∃ t c : Sl, Row w b e (ruleCells r t c) ∧ Above b (elInt .i32) w t r.text ∧ Above b elU8 w c r.cells ∧ r.name.length ≤ 1000000 ∧ r.left.length ≤ 1000000 ∧ r.right.length ≤ 1000000
def elRule : El RuleV where
  z := 6
  rel G w cs r := ∃ t c : Sl, cs = ruleCells r t c ∧ SlIs (elInt .i32) G w t r.text ∧ SlIs elU8 G w c r.cells ∧ r.name.length ≤ Vc.big ∧ r.left.length ≤ Vc.big ∧ r.right.length ≤ Vc.big
  len := fun ⟨_, _, h, _⟩ => by rw [h]; rfl
  frame := fun hf ⟨t, c, h1, h2, h3, h4⟩ => ⟨t, c, h1, h2.frame hf, h3.frame hf, h4⟩
  mono := fun hf ⟨t, c, h1, h2, h3, h4⟩ => ⟨t, c, h1, h2.mono hf, h3.mono hf, h4⟩
/-- What reads a word. -/
inductive Rd | name | text (a b : Nat) | cells (a b : Nat) | left | right
def rdRun (s : List UInt8) (r : RuleV) : Rd → RuleV × Bool
  | .name => ({ r with name := s }, isNameB s)
  | .text a b => ({ r with text := (runesR s b).1 }, (runesR s b).2 && decide ((a : Int) ≤ (runesR s b).1.length))
  | .cells a b => ({ r with cells := (parseDots s).1 }, (parseDots s).2 == 0 && decide ((a : Int) ≤ (parseDots s).1.length) && decide (((parseDots s).1.length : Int) ≤ b))
  | .left => ({ r with left := (sideOf s).1 }, (sideOf s).2)
  | .right => ({ r with right := (sideOf s).1 }, (sideOf s).2)
structure FormV where
  word : List UInt8
  kind : UInt8
  rds : List Rd
  tell : Nat
def formsL : List FormV := [
  ⟨[99, 108, 97, 115, 115], 1, [.name, .text 1 200], 2⟩,
  ⟨[115, 105, 103, 110], 2, [.text 1 1, .cells 1 8], 3⟩,
  ⟨[112, 97, 114, 116], 3, [.text 1 16, .cells 1 8, .left, .right], 4⟩,
  ⟨[99, 97, 112, 105, 116, 97, 108], 4, [.cells 1 8], 1⟩,
  ⟨[101, 115, 99, 97, 112, 101], 5, [.cells 1 1], 1⟩,
  ⟨[104, 101, 120], 6, [.cells 16 16], 1⟩]
/-- The readers one after the other, until one says no. -/
def readAll : List Rd → List (List UInt8) → RuleV × Bool → RuleV × Bool
  | rd :: rds, s :: ss, x => readAll rds ss (if x.2 = true then rdRun s x.1 rd else x)
  | _, _, x => x
theorem readAll_snoc : ∀ (rds : List Rd) (ss : List (List UInt8)) (x : RuleV × Bool) (rd : Rd) (s : List UInt8), rds.length = ss.length → readAll (rds ++ [rd]) (ss ++ [s]) x = (if (readAll rds ss x).2 = true then rdRun s (readAll rds ss x).1 rd else readAll rds ss x)
  | [], [], x, rd, s, _ => rfl
  | r :: rds, t :: ss, x, rd, s, h => readAll_snoc rds ss _ rd s (by simpa using h)
def formIs (l : List (List UInt8)) (f : FormV) : Bool := f.word == l.headD [] && l.length == 1 + f.rds.length
def ruleOf (l : List (List UInt8)) : RuleV × Bool := match formsL.find? (formIs l) with
  | none => (.zero, false)
  | some f => readAll f.rds l.tail ({ RuleV.zero with kind := f.kind }, true)
def tellWords (f : FormV) (r : RuleV) : List (List UInt8) := match f.tell with
  | 1 => [textDots r.cells]
  | 2 => [r.name, toldL r.text]
  | 3 => [toldL r.text, textDots r.cells]
  | _ => [toldL r.text, textDots r.cells, starOf r.left, starOf r.right]
/-- A rule's words; nothing, if it may not be. -/
def tellOf (r : RuleV) : Option (List (List UInt8)) := match formsL.find? (fun f => f.kind == r.kind) with
  | none => none
  | some f =>
    if r.text.length > 200 || r.text.any (fun x => !isRuneB x) then none else
    let l := f.word :: tellWords f r
    if l.any (fun w => w.contains 32) then none else
    if (ruleOf l).2 = true ∧ (ruleOf l).1 = r then some l else none
end Go.Vc
namespace Go.Vc
/-! ### a text's pieces -/
def splitGo (c : UInt8) : List UInt8 → List UInt8 → List (List UInt8)
  | [], cur => [cur]
  | b :: l, cur => if b = c then cur :: splitGo c l [] else splitGo c l (cur ++ [b])
/-- What stands between the c's of a text. -/
def splitL (c : UInt8) (s : List UInt8) : List (List UInt8) := splitGo c s []
theorem splitGo_none (c : UInt8) : ∀ (l cur : List UInt8), c ∉ l → splitGo c l cur = [cur ++ l]
  | [], cur, _ => by simp [splitGo]
  | b :: l, cur, h => by
    have hb : b ≠ c := by rintro rfl; simp at h
    rw [splitGo, if_neg hb, splitGo_none c l _ (fun h2 => h (by simp [h2]))]; simp
theorem splitGo_some (c : UInt8) : ∀ (a l cur : List UInt8), c ∉ a → splitGo c (a ++ c :: l) cur = (cur ++ a) :: splitGo c l []
  | [], l, cur, _ => by simp [splitGo]
  | b :: a, l, cur, h => by
    have hb : b ≠ c := by rintro rfl; simp at h
    rw [List.cons_append, splitGo, if_neg hb, splitGo_some c a l _ (fun h2 => h (by simp [h2]))]; simp
theorem splitL_none {c : UInt8} {s : List UInt8} (h : c ∉ s) : splitL c s = [s] := by rw [splitL, splitGo_none c s [] h]; rfl
theorem splitL_some {c : UInt8} {a l : List UInt8} (h : c ∉ a) : splitL c (a ++ c :: l) = a :: splitL c l := by rw [splitL, splitGo_some c a l [] h]; rfl
end Go.Vc
