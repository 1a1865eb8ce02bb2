/- What reading and writing rules compute, in plain words; no program stands here. -/
import Derived.Test.YtcjdbmcklemkkaaDoorRQ
import Derived.Lib.Join
namespace Go.Vc
open Go
/-- A rule's line (of one that may not be: none, but its end). -/
def lineOf (r : RuleV) : List UInt8 := Lib.join ((tellOf r).getD []) [32] ++ [10]
def linesOf (rs : List RuleV) : List UInt8 := rs.flatMap lineOf
/-- Rules as a text. -/
def writeOf (rs : List RuleV) : List UInt8 × Int :=
  if rs.any (fun r => (tellOf r).isNone) = true then ([], 2) else
  if rs.length > 2000 ∨ (linesOf rs).length > 131072 then ([], 3) else (linesOf rs, 0)
/-- The lines one after the other: the rules so far, how many lines so far. -/
def readGo : List (List UInt8) → List RuleV → Nat → List RuleV × Nat × Int
  | [], rs, _ => (rs, 0, 0)
  | s :: r, rs, n =>
    if wordsOf s = [] then readGo r rs (n + 1) else
    if (ruleOf (wordsOf s)).2 = false then ([], n + 1, 5) else
    if rs.length = 2000 then ([], n + 1, 3) else readGo r (rs ++ [(ruleOf (wordsOf s)).1]) (n + 1)
/-- What a text says. -/
def readOf (s : List UInt8) : List RuleV × Nat × Int := if s.length > 131072 then ([], 0, 3) else readGo (splitL 10 s) [] 0
theorem linesOf_snoc (rs : List RuleV) (i : Nat) (h : i < rs.length) : linesOf (rs.take (i + 1)) = linesOf (rs.take i) ++ lineOf rs[i] := by
  simp only [linesOf]; rw [take_snoc' _ _ h, List.flatMap_append]; simp
theorem join_len : ∀ (l : List (List UInt8)) (m : Nat), (∀ x ∈ l, x.length ≤ m) → (Lib.join l [32]).length ≤ l.length * (m + 1)
  | [], m, _ => by simp [Lib.join_nil]
  | [x], m, h => by have := h x (by simp); simp [Lib.join_one]; omega
  | x :: y :: l, m, h => by
    have ih := join_len (y :: l) m (fun z hz => h z (by simp [hz]))
    have hx := h x (by simp)
    rw [Lib.join_cons] at ih ⊢
    simp only [Lib.joinTail, List.map_cons, List.flatten_cons, List.length_append, List.length_cons, List.length_nil, Nat.add_mul, Nat.one_mul] at ih ⊢
    omega
end Go.Vc
