/- The reference's answer on which rules may be told, and how; no program stands here. -/
import Derived.Test.YtcjdbmcklemkkaaDoorRX2
namespace Go.Vc
open Go
set_option linter.unusedSimpArgs false
set_option linter.unusedVariables false

def runesB (l : List Int) (lo hi : Int) : Bool := l.all isRuneB && (decide (lo ≤ (l.length : Int)) && decide ((l.length : Int) ≤ hi))
def sideB (s : List UInt8) : Bool := s == [] || ((sideOf s).2 && (sideOf s).1 == s)
/-- May a rule be told? -/
def mayB (r : RuleV) : Bool :=
  let n : Int := r.cells.length
  let plain := r.left == [] && r.right == []
  if r.kind = 1 then isNameB r.name && runesB r.text 1 200 && n == 0 && plain else
  if r.kind = 2 then r.name == [] && runesB r.text 1 1 && decide (1 ≤ n) && decide (n ≤ 8) && plain else
  if r.kind = 3 then r.name == [] && runesB r.text 1 16 && decide (1 ≤ n) && decide (n ≤ 8) && sideB r.left && sideB r.right else
  if r.kind = 4 then r.name == [] && (r.text.length : Int) == 0 && decide (1 ≤ n) && decide (n ≤ 8) && plain else
  if r.kind = 5 then r.name == [] && (r.text.length : Int) == 0 && n == 1 && plain else
  if r.kind = 6 then r.name == [] && (r.text.length : Int) == 0 && n == 16 && plain else false
/-- Its line. -/
def lineR (r : RuleV) : List UInt8 :=
  if r.kind = 1 then [99, 108, 97, 115, 115, 32] ++ r.name ++ [32] ++ toldL r.text else
  if r.kind = 2 then [115, 105, 103, 110, 32] ++ toldL r.text ++ [32] ++ textDots r.cells else
  if r.kind = 3 then [112, 97, 114, 116, 32] ++ toldL r.text ++ [32] ++ textDots r.cells ++ [32] ++ starOf r.left ++ [32] ++ starOf r.right else
  if r.kind = 4 then [99, 97, 112, 105, 116, 97, 108, 32] ++ textDots r.cells else
  if r.kind = 5 then [101, 115, 99, 97, 112, 101, 32] ++ textDots r.cells else
  [104, 101, 120, 32] ++ textDots r.cells

theorem ne_nil_len {α : Type} {l : List α} (h : (1 : Int) ≤ (l.length : Int)) : l ≠ [] := by rintro rfl; simp at h
theorem star_of_side {s : List UInt8} (h : sideB s = true) : sideOf (starOf s) = (s, true) := by
  simp only [sideB, Bool.or_eq_true, beq_iff_eq, Bool.and_eq_true] at h
  rcases h with rfl | ⟨h1, h2⟩
  · rfl
  · have h3 := side_star h1
    rw [h2] at h3; exact h3
theorem side_of_star {s t : List UInt8} {b : Bool} (h : sideOf (starOf s) = (s, true)) : sideB s = true := by
  by_cases hs : s = []
  · subst hs; rfl
  · rw [starOf, if_neg hs] at h
    simp [sideB, h]
theorem good_side_star {s : List UInt8} (h : sideB s = true) : Good (starOf s) := by
  have h1 := star_of_side h
  have := good_star (s := starOf s) (by rw [h1])
  rw [h1] at this; exact this

theorem runesR_told {l : List Int} {m : Int} (h : ∀ r ∈ l, isRuneB r = true) : runesR (toldL l) m = (l, decide ((1 : Int) ≤ l.length) && decide ((l.length : Int) ≤ m)) := by
  rw [runesR, runesL_told l h]
theorem runesB_iff {l : List Int} {lo hi : Int} : runesB l lo hi = true ↔ (∀ r ∈ l, isRuneB r = true) ∧ lo ≤ (l.length : Int) ∧ (l.length : Int) ≤ hi := by
  simp [runesB, List.all_eq_true]

theorem parse_text_nil : parseDots (textDots []) = ([], 0) := rfl
theorem parse_text' (cs : List UInt8) : parseDots (textDots cs) = (cs, 0) := by
  by_cases h : cs = []
  · subst h; rfl
  · exact parse_text cs h

/-- What the program's telling asks, kind by kind. -/
theorem tell_iff {r : RuleV} {f : FormV} (hf : formsL.find? (fun g => g.kind == r.kind) = some f) : (tellOf r).isSome = true ↔ r.text.length ≤ 200 ∧ (∀ x ∈ r.text, isRuneB x = true) ∧ (∀ w ∈ f.word :: tellWords f r, w.contains 32 = false) ∧ ruleOf (f.word :: tellWords f r) = (r, true) := by
  rw [tellOf, hf]
  simp only
  constructor
  · intro h
    split at h
    · cases h
    · rename_i h1
      simp only [Bool.or_eq_true, decide_eq_true_eq, not_or, Bool.not_eq_true] at h1
      split at h
      · cases h
      · rename_i h2
        split at h
        · rename_i h3
          refine ⟨by omega, fun x hx => ?_, fun w hw => ?_, Prod.ext h3.2 h3.1⟩
          · have := List.any_eq_false.1 h1.2 x hx; simpa using this
          · have := List.any_eq_false.1 (by rw [Bool.not_eq_true] at h2; exact h2) w hw; simpa using this
        · cases h
  · rintro ⟨h1, h2, h3, h4⟩
    rw [any_rune h2, show decide (r.text.length > 200) = false by simp; omega]
    have : (f.word :: tellWords f r).any (fun w => w.contains 32) = false := by
      rw [List.any_eq_false]; intro w hw; rw [h3 w hw]; decide
    rw [this, h4]; simp

theorem may_cap {r : RuleV} (hk : r.kind = 4) : (tellOf r).isSome = (r.name == [] && (r.text.length : Int) == 0 && (decide ((1 : Int) ≤ r.cells.length) && decide ((r.cells.length : Int) ≤ 8)) && (r.left == [] && r.right == [])) := by
  rw [Bool.eq_iff_iff, tell_iff (f := ⟨[99, 97, 112, 105, 116, 97, 108], 4, [.cells 1 8], 1⟩) (by rw [hk]; rfl)]
  obtain ⟨kind, name, text, cells, left, right⟩ := r
  simp only at hk
  subst hk
  have hr : ruleOf ([99, 97, 112, 105, 116, 97, 108] :: tellWords ⟨[99, 97, 112, 105, 116, 97, 108], 4, [.cells 1 8], 1⟩ ⟨4, name, text, cells, left, right⟩) = readAll [.cells 1 8] [textDots cells] ({ RuleV.zero with kind := 4 }, true) := rfl
  rw [hr]
  simp only [readAll, rdRun, if_true, parse_text', tellWords]
  simp only [Prod.mk.injEq, RuleV.mk.injEq, RuleV.zero, Bool.and_eq_true, decide_eq_true_eq, beq_iff_eq]
  constructor
  · rintro ⟨_, _, _, ⟨_, rfl, rfl, _, rfl, rfl⟩, ⟨_, h1⟩, h2⟩
    exact ⟨⟨⟨rfl, rfl⟩, by simpa using h1, by simpa using h2⟩, rfl, rfl⟩
  · rintro ⟨⟨⟨rfl, h0⟩, h1, h2⟩, rfl, rfl⟩
    have : text = [] := List.eq_nil_of_length_eq_zero (by omega)
    subst this
    refine ⟨Nat.zero_le _, by simp, ?_, ?_⟩
    · intro w hw
      simp only [List.mem_cons, List.not_mem_nil, or_false] at hw
      rcases hw with rfl | rfl
      · decide
      · exact (good_dots (ne_nil_len (by omega))).no32
    · simp; omega

theorem may_esc {r : RuleV} (hk : r.kind = 5) : (tellOf r).isSome = (r.name == [] && (r.text.length : Int) == 0 && (decide ((1 : Int) ≤ r.cells.length) && decide ((r.cells.length : Int) ≤ 1)) && (r.left == [] && r.right == [])) := by
  rw [Bool.eq_iff_iff, tell_iff (f := ⟨[101, 115, 99, 97, 112, 101], 5, [.cells 1 1], 1⟩) (by rw [hk]; rfl)]
  obtain ⟨kind, name, text, cells, left, right⟩ := r
  simp only at hk
  subst hk
  have hr : ruleOf ([101, 115, 99, 97, 112, 101] :: tellWords ⟨[101, 115, 99, 97, 112, 101], 5, [.cells 1 1], 1⟩ ⟨5, name, text, cells, left, right⟩) = readAll [.cells 1 1] [textDots cells] ({ RuleV.zero with kind := 5 }, true) := rfl
  rw [hr]
  simp only [readAll, rdRun, if_true, parse_text', tellWords]
  simp only [Prod.mk.injEq, RuleV.mk.injEq, RuleV.zero, Bool.and_eq_true, decide_eq_true_eq, beq_iff_eq]
  constructor
  · rintro ⟨_, _, _, ⟨_, rfl, rfl, _, rfl, rfl⟩, ⟨_, h1⟩, h2⟩
    exact ⟨⟨⟨rfl, rfl⟩, by simpa using h1, by simpa using h2⟩, rfl, rfl⟩
  · rintro ⟨⟨⟨rfl, h0⟩, h1, h2⟩, rfl, rfl⟩
    have : text = [] := List.eq_nil_of_length_eq_zero (by omega)
    subst this
    refine ⟨Nat.zero_le _, by simp, ?_, ?_⟩
    · intro w hw
      simp only [List.mem_cons, List.not_mem_nil, or_false] at hw
      rcases hw with rfl | rfl
      · decide
      · exact (good_dots (ne_nil_len (by omega))).no32
    · simp; omega

theorem may_hex {r : RuleV} (hk : r.kind = 6) : (tellOf r).isSome = (r.name == [] && (r.text.length : Int) == 0 && (decide ((16 : Int) ≤ r.cells.length) && decide ((r.cells.length : Int) ≤ 16)) && (r.left == [] && r.right == [])) := by
  rw [Bool.eq_iff_iff, tell_iff (f := ⟨[104, 101, 120], 6, [.cells 16 16], 1⟩) (by rw [hk]; rfl)]
  obtain ⟨kind, name, text, cells, left, right⟩ := r
  simp only at hk
  subst hk
  have hr : ruleOf ([104, 101, 120] :: tellWords ⟨[104, 101, 120], 6, [.cells 16 16], 1⟩ ⟨6, name, text, cells, left, right⟩) = readAll [.cells 16 16] [textDots cells] ({ RuleV.zero with kind := 6 }, true) := rfl
  rw [hr]
  simp only [readAll, rdRun, if_true, parse_text', tellWords]
  simp only [Prod.mk.injEq, RuleV.mk.injEq, RuleV.zero, Bool.and_eq_true, decide_eq_true_eq, beq_iff_eq]
  constructor
  · rintro ⟨_, _, _, ⟨_, rfl, rfl, _, rfl, rfl⟩, ⟨_, h1⟩, h2⟩
    exact ⟨⟨⟨rfl, rfl⟩, by simpa using h1, by simpa using h2⟩, rfl, rfl⟩
  · rintro ⟨⟨⟨rfl, h0⟩, h1, h2⟩, rfl, rfl⟩
    have : text = [] := List.eq_nil_of_length_eq_zero (by omega)
    subst this
    refine ⟨Nat.zero_le _, by simp, ?_, ?_⟩
    · intro w hw
      simp only [List.mem_cons, List.not_mem_nil, or_false] at hw
      rcases hw with rfl | rfl
      · decide
      · exact (good_dots (ne_nil_len (by omega))).no32
    · simp; omega

theorem may_class {r : RuleV} (hk : r.kind = 1) : (tellOf r).isSome = (isNameB r.name && runesB r.text 1 200 && (r.cells.length : Int) == 0 && (r.left == [] && r.right == [])) := by
  rw [Bool.eq_iff_iff, tell_iff (f := ⟨[99, 108, 97, 115, 115], 1, [.name, .text 1 200], 2⟩) (by rw [hk]; rfl)]
  obtain ⟨kind, name, text, cells, left, right⟩ := r
  simp only at hk
  subst hk
  have hr : ruleOf ([99, 108, 97, 115, 115] :: tellWords ⟨[99, 108, 97, 115, 115], 1, [.name, .text 1 200], 2⟩ ⟨1, name, text, cells, left, right⟩) = readAll [.name, .text 1 200] [name, toldL text] ({ RuleV.zero with kind := 1 }, true) := rfl
  rw [hr]
  simp only [readAll, rdRun, if_true, tellWords]
  simp only [Bool.and_eq_true, runesB_iff, beq_iff_eq]
  constructor
  · rintro ⟨h1, h2, h3, h4⟩
    rw [runesR_told h2] at h4
    cases hn : isNameB name with
    | false => rw [hn] at h4; simp at h4
    | true =>
      rw [hn] at h4
      simp only [if_true, Prod.mk.injEq, RuleV.mk.injEq, RuleV.zero, Bool.and_eq_true, decide_eq_true_eq] at h4
      obtain ⟨⟨_, _, _, rfl, rfl, rfl⟩, ⟨h5, _⟩, _⟩ := h4
      exact ⟨⟨⟨rfl, h2, by simpa using h5, by omega⟩, rfl⟩, rfl, rfl⟩
  · rintro ⟨⟨⟨hn, h2, h5, h6⟩, h0⟩, rfl, rfl⟩
    have : cells = [] := List.eq_nil_of_length_eq_zero (by omega)
    subst this
    rw [runesR_told h2, hn]
    refine ⟨by omega, h2, ?_, ?_⟩
    · intro w hw
      simp only [List.mem_cons, List.not_mem_nil, or_false] at hw
      rcases hw with rfl | rfl | rfl
      · decide
      · exact (good_name hn).no32
      · exact (good_told (ne_nil_len h5)).no32
    · simp only [if_true, Prod.mk.injEq, RuleV.mk.injEq, RuleV.zero, Bool.and_eq_true, decide_eq_true_eq]
      simp; omega

theorem may_sign {r : RuleV} (hk : r.kind = 2) : (tellOf r).isSome = (r.name == [] && runesB r.text 1 1 && decide ((1 : Int) ≤ r.cells.length) && decide ((r.cells.length : Int) ≤ 8) && (r.left == [] && r.right == [])) := by
  rw [Bool.eq_iff_iff, tell_iff (f := ⟨[115, 105, 103, 110], 2, [.text 1 1, .cells 1 8], 3⟩) (by rw [hk]; rfl)]
  obtain ⟨kind, name, text, cells, left, right⟩ := r
  simp only at hk
  subst hk
  have hr : ruleOf ([115, 105, 103, 110] :: tellWords ⟨[115, 105, 103, 110], 2, [.text 1 1, .cells 1 8], 3⟩ ⟨2, name, text, cells, left, right⟩) = readAll [.text 1 1, .cells 1 8] [toldL text, textDots cells] ({ RuleV.zero with kind := 2 }, true) := rfl
  rw [hr]
  simp only [readAll, rdRun, if_true, tellWords, parse_text']
  simp only [Bool.and_eq_true, runesB_iff, beq_iff_eq, decide_eq_true_eq]
  constructor
  · rintro ⟨h1, h2, h3, h4⟩
    rw [runesR_told h2] at h4
    simp only at h4
    split at h4
    · rename_i hn
      simp only [Prod.mk.injEq, RuleV.mk.injEq, RuleV.zero, Bool.and_eq_true, decide_eq_true_eq, beq_iff_eq] at h4 hn
      obtain ⟨⟨_, rfl, _, _, rfl, rfl⟩, ⟨_, h5⟩, h6⟩ := h4
      exact ⟨⟨⟨⟨rfl, h2, hn.1.1, by omega⟩, by omega⟩, by omega⟩, rfl, rfl⟩
    · rename_i hn
      exfalso
      simp at h4 hn
      omega
  · rintro ⟨⟨⟨⟨rfl, h2, h5, h6⟩, h7⟩, h8⟩, rfl, rfl⟩
    rw [runesR_told h2]
    simp only
    refine ⟨by omega, h2, ?_, ?_⟩
    · intro w hw
      simp only [List.mem_cons, List.not_mem_nil, or_false] at hw
      rcases hw with rfl | rfl | rfl
      · decide
      · exact (good_told (ne_nil_len h5)).no32
      · exact (good_dots (ne_nil_len h7)).no32
    · rw [if_pos ⟨by simp; omega, by omega⟩]
      simp [RuleV.zero]; omega

theorem may_part {r : RuleV} (hk : r.kind = 3) : (tellOf r).isSome = (r.name == [] && runesB r.text 1 16 && decide ((1 : Int) ≤ r.cells.length) && decide ((r.cells.length : Int) ≤ 8) && sideB r.left && sideB r.right) := by
  rw [Bool.eq_iff_iff, tell_iff (f := ⟨[112, 97, 114, 116], 3, [.text 1 16, .cells 1 8, .left, .right], 4⟩) (by rw [hk]; rfl)]
  obtain ⟨kind, name, text, cells, left, right⟩ := r
  simp only at hk
  subst hk
  have hr : ruleOf ([112, 97, 114, 116] :: tellWords ⟨[112, 97, 114, 116], 3, [.text 1 16, .cells 1 8, .left, .right], 4⟩ ⟨3, name, text, cells, left, right⟩) = readAll [.text 1 16, .cells 1 8, .left, .right] [toldL text, textDots cells, starOf left, starOf right] ({ RuleV.zero with kind := 3 }, true) := rfl
  rw [hr]
  have key : (∀ x ∈ text, isRuneB x = true) → (readAll [.text 1 16, .cells 1 8, .left, .right] [toldL text, textDots cells, starOf left, starOf right] ({ RuleV.zero with kind := 3 }, true) = (⟨3, name, text, cells, left, right⟩, true) ↔
      (name = [] ∧ ((1 : Int) ≤ text.length ∧ (text.length : Int) ≤ 16) ∧ ((1 : Int) ≤ cells.length ∧ (cells.length : Int) ≤ 8) ∧ sideOf (starOf left) = (left, true) ∧ sideOf (starOf right) = (right, true))) := by
    intro h2
    simp only [readAll, rdRun, if_true, parse_text', runesR_told h2, RuleV.zero]
    obtain ⟨L, bl⟩ := sideOf (starOf left)
    obtain ⟨R, br⟩ := sideOf (starOf right)
    by_cases c1 : (1 : Int) ≤ text.length ∧ (text.length : Int) ≤ 16
    · have e1 : ((decide ((1 : Int) ≤ text.length) && decide ((text.length : Int) ≤ ((16 : Nat) : Int))) && decide (((1 : Nat) : Int) ≤ (text.length : Int))) = true := by simp; omega
      by_cases c2 : (1 : Int) ≤ cells.length ∧ (cells.length : Int) ≤ 8
      · have e2 : ((0 : Int) == 0 && decide (((1 : Nat) : Int) ≤ (cells.length : Int)) && decide ((cells.length : Int) ≤ ((8 : Nat) : Int))) = true := by simp; omega
        simp only [e1, e2, if_true]
        cases bl <;> cases br <;> simp only [if_true, Bool.false_eq_true, if_false, Prod.mk.injEq, RuleV.mk.injEq, and_false, false_and, and_true, true_and, c1, c2]
        constructor
        · rintro ⟨rfl, rfl, rfl⟩; exact ⟨rfl, rfl, rfl⟩
        · rintro ⟨rfl, rfl, rfl⟩; exact ⟨rfl, rfl, rfl⟩
      · have e2 : ((0 : Int) == 0 && decide (((1 : Nat) : Int) ≤ (cells.length : Int)) && decide ((cells.length : Int) ≤ ((8 : Nat) : Int))) = false := by simp; omega
        simp only [e1, e2, if_true]
        simp only [Bool.false_eq_true, if_false, Prod.mk.injEq, and_false, c2, false_and]
    · have e1 : ((decide ((1 : Int) ≤ text.length) && decide ((text.length : Int) ≤ ((16 : Nat) : Int))) && decide (((1 : Nat) : Int) ≤ (text.length : Int))) = false := by simp; omega
      simp only [e1]
      simp only [Bool.false_eq_true, if_false, Prod.mk.injEq, and_false, c1, false_and]
  simp only [tellWords, Bool.and_eq_true, runesB_iff, beq_iff_eq, decide_eq_true_eq]
  constructor
  · rintro ⟨h1, h2, h3, h4⟩
    obtain ⟨k1, k2, k3, k4, k5⟩ := (key h2).1 h4
    exact ⟨⟨⟨⟨⟨k1, h2, k2⟩, k3.1⟩, k3.2⟩, side_of_star (t := []) (b := true) k4⟩, side_of_star (t := []) (b := true) k5⟩
  · rintro ⟨⟨⟨⟨⟨rfl, h2, h5, h6⟩, h7⟩, h8⟩, hl⟩, hrr⟩
    refine ⟨by omega, h2, ?_, (key h2).2 ⟨rfl, ⟨h5, h6⟩, ⟨h7, h8⟩, star_of_side hl, star_of_side hrr⟩⟩
    intro w hw
    simp only [List.mem_cons, List.not_mem_nil, or_false] at hw
    rcases hw with rfl | rfl | rfl | rfl | rfl
    · decide
    · exact (good_told (ne_nil_len h5)).no32
    · exact (good_dots (ne_nil_len h7)).no32
    · exact (good_side_star hl).no32
    · exact (good_side_star hrr).no32

/-- The program's and the reference's answer. -/
theorem may_eq (r : RuleV) : (tellOf r).isSome = mayB r := by
  unfold mayB
  by_cases k1 : r.kind = 1
  · rw [may_class k1]; simp [k1, Bool.and_assoc]
  by_cases k2 : r.kind = 2
  · rw [may_sign k2]; simp [k2, Bool.and_assoc]
  by_cases k3 : r.kind = 3
  · rw [may_part k3]; simp [k3, Bool.and_assoc]
  by_cases k4 : r.kind = 4
  · rw [may_cap k4]; simp [k4, Bool.and_assoc]
  by_cases k5 : r.kind = 5
  · have e : (decide ((1 : Int) ≤ r.cells.length) && decide ((r.cells.length : Int) ≤ 1)) = ((r.cells.length : Int) == 1) := by rw [Bool.eq_iff_iff]; simp; omega
    rw [may_esc k5, e]; simp only [k5, Bool.and_assoc]; rfl
  by_cases k6 : r.kind = 6
  · have e : (decide ((16 : Int) ≤ r.cells.length) && decide ((r.cells.length : Int) ≤ 16)) = ((r.cells.length : Int) == 16) := by rw [Bool.eq_iff_iff]; simp; omega
    rw [may_hex k6, e]; simp only [k6, Bool.and_assoc]; rfl
  simp only [k1, k2, k3, k4, k5, k6, if_false]
  rw [tellOf]
  have : formsL.find? (fun g => g.kind == r.kind) = none := by
    rw [List.find?_eq_none]
    intro f hf
    simp only [formsL, List.mem_cons, List.not_mem_nil, or_false] at hf
    rcases hf with rfl | rfl | rfl | rfl | rfl | rfl <;> simp <;> (intro h; simp_all)
  rw [this]; rfl
theorem tellOf_form {r : RuleV} {l : List (List UInt8)} (h : tellOf r = some l) : ∃ f, formsL.find? (fun g => g.kind == r.kind) = some f ∧ l = f.word :: tellWords f r := by
  rw [tellOf] at h
  split at h
  · cases h
  · rename_i f hf
    split at h
    · cases h
    · simp only at h
      split at h
      · cases h
      · split at h
        · simp only [Option.some.injEq] at h
          exact ⟨f, hf, h.symm⟩
        · cases h
theorem line_eq {r : RuleV} {l : List (List UInt8)} (h : tellOf r = some l) : Lib.join l [32] = lineR r := by
  obtain ⟨f, hf, rfl⟩ := tellOf_form h
  have hk := List.find?_some hf
  have hm := List.mem_of_find?_eq_some hf
  simp only [formsL, List.mem_cons, List.not_mem_nil, or_false] at hm
  simp only [beq_iff_eq] at hk
  rcases hm with rfl | rfl | rfl | rfl | rfl | rfl <;> simp only at hk <;> simp [lineR, ← hk, tellWords, Lib.join_cons, Lib.joinTail]
theorem lineOf_eq {r : RuleV} (h : mayB r = true) : lineOf r = lineR r ++ [10] := by
  rw [← may_eq] at h
  obtain ⟨l, hl⟩ := Option.isSome_iff_exists.1 h
  rw [lineOf, hl, Option.getD_some, line_eq hl]
theorem any_may (rs : List RuleV) : rs.any (fun r => (tellOf r).isNone) = rs.any (fun r => !mayB r) := by
  congr 1; funext r; rw [← may_eq]; cases tellOf r <;> rfl
end Go.Vc
