/- What a text says, and that it is written in one that says the same; no program stands here. -/
import Derived.Test.YtcjdbmcklemkkaaDoorRW
namespace Go.Vc
open Go
set_option linter.unusedSimpArgs false
set_option linter.unusedVariables false

theorem wordsGo_good : ∀ (l : List (List UInt8)), (∀ w ∈ l, Good w) → wordsGo l = l
  | [], _ => rfl
  | p :: r, h => by
    have hp := h p (by simp)
    have e : ([35] : List UInt8).isPrefixOf p = false := by
      cases hb : ([35] : List UInt8).isPrefixOf p with
      | false => rfl
      | true =>
        exfalso
        cases p with
        | nil => simp at hb
        | cons c t => simp at hb; exact hp.2.1 (by simp [hb])
    rw [wordsGo, e, if_neg (by decide), if_neg hp.1, wordsGo_good r (fun w hw => h w (by simp [hw]))]
theorem split_join : ∀ (l : List (List UInt8)), l ≠ [] → (∀ w ∈ l, Good w) → splitL 32 (Lib.join l [32]) = l
  | [], h, _ => absurd rfl h
  | [x], _, h => by
    rw [Lib.join_one]
    exact splitL_none (fun hx => (h x (by simp)).2.2 32 hx |>.2 rfl)
  | x :: y :: r, _, h => by
    have ih := split_join (y :: r) (by simp) (fun w hw => h w (by simp [hw]))
    have e : Lib.join (x :: y :: r) [32] = x ++ 32 :: Lib.join (y :: r) [32] := by
      rw [Lib.join_cons, Lib.join_cons]
      simp [Lib.joinTail]
    rw [e, splitL_some (fun hx => (h x (by simp)).2.2 32 hx |>.2 rfl), ih]
theorem words_join {l : List (List UInt8)} (h0 : l ≠ []) (h : ∀ w ∈ l, Good w) : wordsOf (Lib.join l [32]) = l := by
  rw [wordsOf, split_join l h0 h, wordsGo_good l h]
theorem join_no10 : ∀ (l : List (List UInt8)), (∀ w ∈ l, Good w) → (10 : UInt8) ∉ Lib.join l [32]
  | [], _ => by simp [Lib.join_nil]
  | [x], h => by
    rw [Lib.join_one]
    intro hx
    exact (h x (by simp)).2.2 10 hx |>.1 rfl
  | x :: y :: r, h => by
    have ih := join_no10 (y :: r) (fun w hw => h w (by simp [hw]))
    have e : Lib.join (x :: y :: r) [32] = x ++ 32 :: Lib.join (y :: r) [32] := by
      rw [Lib.join_cons, Lib.join_cons]
      simp [Lib.joinTail]
    rw [e]
    simp only [List.mem_append, List.mem_cons, not_or]
    exact ⟨fun hx => (h x (by simp)).2.2 10 hx |>.1 rfl, by decide, ih⟩

theorem readGo_nil (rs : List RuleV) (n : Nat) : readGo [] rs n = (rs, 0, 0) := by rw [readGo]
theorem readGo_cons (s : List UInt8) (r : List (List UInt8)) (rs : List RuleV) (n : Nat) : readGo (s :: r) rs n = if wordsOf s = [] then readGo r rs (n + 1) else if (ruleOf (wordsOf s)).2 = false then ([], n + 1, 5) else if rs.length = 2000 then ([], n + 1, 3) else readGo r (rs ++ [(ruleOf (wordsOf s)).1]) (n + 1) := by rw [readGo]

/-- The lines of rules are read again. -/
theorem read_lines : ∀ (rs acc : List RuleV) (n : Nat), (∀ r ∈ rs, (tellOf r).isSome = true) → acc.length + rs.length ≤ 2000 → readGo (splitL 10 (linesOf rs)) acc n = (acc ++ rs, 0, 0)
  | [], acc, n, _, _ => by
    have e : splitL 10 (linesOf []) = [[]] := rfl
    rw [e, readGo_cons, if_pos (by decide), readGo_nil]; simp
  | r :: rs, acc, n, h, hl => by
    obtain ⟨l, ht⟩ := Option.isSome_iff_exists.1 (h r (by simp))
    obtain ⟨hg, h0, hr⟩ := tellOf_good ht
    have e : linesOf (r :: rs) = Lib.join l [32] ++ 10 :: linesOf rs := by simp [linesOf, lineOf, ht]
    rw [e, splitL_some (join_no10 l hg), readGo_cons, words_join h0 hg, if_neg h0, hr]
    simp only [List.length_cons] at hl
    rw [if_neg (by simp), if_neg (by omega)]
    have ih := read_lines rs (acc ++ [r]) (n + 1) (fun x hx => h x (by simp [hx])) (by simp; omega)
    rw [ih]; simp

theorem read_write {rs : List RuleV} (h : ∀ r ∈ rs, (tellOf r).isSome = true) (hl : rs.length ≤ 2000) (hs : (linesOf rs).length ≤ 131072) : readOf (linesOf rs) = (rs, 0, 0) := by
  rw [readOf, if_neg (by omega), read_lines rs [] 0 h (by simpa using hl)]
  simp

/-- What is read may be told. -/
theorem readGo_ok : ∀ (L : List (List UInt8)) (acc : List RuleV) (n : Nat), (∀ r ∈ acc, (tellOf r).isSome = true) → acc.length ≤ 2000 →
    (∀ r ∈ (readGo L acc n).1, (tellOf r).isSome = true) ∧ (readGo L acc n).1.length ≤ 2000 ∧ ((readGo L acc n).2.2 = 0 → (readGo L acc n).2.1 = 0) ∧ ((readGo L acc n).2.2 ≠ 0 → (readGo L acc n).1 = [])
  | [], acc, n, h, hl => by rw [readGo_nil]; exact ⟨h, hl, fun _ => rfl, fun h => absurd rfl h⟩
  | s :: L, acc, n, h, hl => by
    rw [readGo_cons]
    split
    · exact readGo_ok L acc (n + 1) h hl
    · split
      · exact ⟨by simp, by simp, fun h => by simp at h, fun _ => rfl⟩
      · rename_i hok
        split
        · exact ⟨by simp, by simp, fun h => by simp at h, fun _ => rfl⟩
        · refine readGo_ok L _ (n + 1) ?_ (by simp; omega)
          intro r hr
          rcases List.mem_append.1 hr with hr | hr
          · exact h r hr
          · simp only [List.mem_cons, List.not_mem_nil, or_false] at hr
            subst hr
            obtain ⟨l, h1, _⟩ := rule_canon (by simpa using hok : (ruleOf (wordsOf s)).2 = true)
            rw [h1]; rfl
theorem readOf_ok (s : List UInt8) : (∀ r ∈ (readOf s).1, (tellOf r).isSome = true) ∧ (readOf s).1.length ≤ 2000 ∧ ((readOf s).2.2 = 0 → (readOf s).2.1 = 0) ∧ ((readOf s).2.2 ≠ 0 → (readOf s).1 = []) := by
  unfold readOf
  split
  · exact ⟨by simp, by simp, fun h => by simp at h, fun _ => rfl⟩
  · exact readGo_ok _ [] 0 (by simp) (by simp)

/-- Lines ahead are counted, no more. -/
theorem readGo_shift : ∀ (L : List (List UInt8)) (acc : List RuleV) (n k : Nat), (readGo L acc (n + k)).1 = (readGo L acc n).1 ∧ (readGo L acc (n + k)).2.2 = (readGo L acc n).2.2 ∧ ((readGo L acc n).2.2 ≠ 0 → (readGo L acc (n + k)).2.1 = (readGo L acc n).2.1 + k)
  | [], acc, n, k => by rw [readGo_nil, readGo_nil]; exact ⟨rfl, rfl, fun h => absurd rfl h⟩
  | s :: L, acc, n, k => by
    rw [readGo_cons, readGo_cons]
    split
    · have := readGo_shift L acc (n + 1) k
      rwa [show n + 1 + k = n + k + 1 by omega] at this
    · split
      · exact ⟨rfl, rfl, fun _ => by simp only; omega⟩
      · split
        · exact ⟨rfl, rfl, fun _ => by simp only; omega⟩
        · have := readGo_shift L (acc ++ [(ruleOf (wordsOf s)).1]) (n + 1) k
          rwa [show n + 1 + k = n + k + 1 by omega] at this

theorem words_remark (t : List UInt8) : wordsOf (35 :: 32 :: t) = [] := by
  have e : splitL 32 (35 :: 32 :: t) = [35] :: splitL 32 t := splitL_some (a := [35]) (c := 32) (by decide)
  rw [wordsOf, e, wordsGo, if_pos (by decide)]
/-- Blanks, or a remark, ahead. -/
theorem read_ahead (s t : List UInt8) (ht : (10 : UInt8) ∉ t) (hs : s.length ≤ 3000) (htl : t.length ≤ 100) :
    (readOf ([32, 32, 32, 10, 35, 32] ++ t ++ [10] ++ s)).1 = (readOf s).1 ∧ (readOf ([32, 32, 32, 10, 35, 32] ++ t ++ [10] ++ s)).2.2 = (readOf s).2.2 ∧ ((readOf s).2.2 ≠ 0 → (readOf ([32, 32, 32, 10, 35, 32] ++ t ++ [10] ++ s)).2.1 = (readOf s).2.1 + 2) := by
  have e1 : readOf s = readGo (splitL 10 s) [] 0 := by rw [readOf, if_neg (by omega)]
  have e2 : readOf ([32, 32, 32, 10, 35, 32] ++ t ++ [10] ++ s) = readGo (splitL 10 ([32, 32, 32, 10, 35, 32] ++ t ++ [10] ++ s)) [] 0 := by rw [readOf, if_neg (by simp; omega)]
  have e3 : [32, 32, 32, 10, 35, 32] ++ t ++ [10] ++ s = [32, 32, 32] ++ 10 :: ((35 :: 32 :: t) ++ 10 :: s) := by simp
  rw [e2, e1, e3, splitL_some (by decide), splitL_some (by simp; exact ht), readGo_cons, if_pos (by decide), readGo_cons, if_pos (words_remark t)]
  exact readGo_shift _ _ 0 2

/-! ### many -/
def capR : RuleV := (ruleOf [[99, 97, 112, 105, 116, 97, 108], [49]]).1
def capLine : List UInt8 := [99, 97, 112, 105, 116, 97, 108, 32, 49]
theorem cap_ok : ruleOf (wordsOf capLine) = (capR, true) ∧ wordsOf capLine ≠ [] := by decide +kernel
theorem split_many : ∀ (n : Nat), splitL 10 ((List.replicate n (capLine ++ [10])).flatten) = List.replicate n capLine ++ [[]]
  | 0 => rfl
  | n + 1 => by
    rw [List.replicate_succ, List.flatten_cons, List.append_assoc]
    have : splitL 10 (capLine ++ 10 :: (List.replicate n (capLine ++ [10])).flatten) = capLine :: splitL 10 ((List.replicate n (capLine ++ [10])).flatten) := splitL_some (by decide)
    rw [show [10] ++ (List.replicate n (capLine ++ [10])).flatten = 10 :: (List.replicate n (capLine ++ [10])).flatten from rfl, this, split_many n]
    simp [List.replicate_succ]
theorem read_many : ∀ (n : Nat) (acc : List RuleV) (k : Nat), acc.length = k → k ≤ 2000 → readGo (List.replicate n capLine ++ [[]]) acc k = if k + n ≤ 2000 then (acc ++ List.replicate n capR, 0, 0) else ([], 2001, 3)
  | 0, acc, k, h, hk => by
    rw [List.replicate_zero, List.nil_append, readGo_cons, if_pos (by decide), readGo_nil, if_pos (by omega)]; simp
  | n + 1, acc, k, h, hk => by
    rw [List.replicate_succ, List.cons_append, readGo_cons, if_neg cap_ok.2, cap_ok.1, if_neg (by decide)]
    by_cases h2 : acc.length = 2000
    · rw [if_pos h2, if_neg (by omega), show k + 1 = 2001 by omega]
    · rw [if_neg h2, read_many n (acc ++ [capR]) (k + 1) (by simp [h]) (by omega)]
      by_cases h3 : k + 1 + n ≤ 2000
      · rw [if_pos h3, if_pos (by omega)]; simp [List.replicate_succ]
      · rw [if_neg h3, if_neg (by omega)]
theorem many_ok (n : Nat) (h : n ≤ 2010) : readOf ((List.replicate n (capLine ++ [10])).flatten) = if n ≤ 2000 then (List.replicate n capR, 0, 0) else ([], 2001, 3) := by
  have hl : ((List.replicate n (capLine ++ [10])).flatten).length = n * 10 := by
    rw [List.length_flatten, List.map_replicate, List.sum_replicate_nat]; simp [capLine]
  rw [readOf, if_neg (by rw [hl]; omega), split_many, read_many n [] 0 rfl (by omega)]
  simp
end Go.Vc
