/- How large a rule is that is read; no program stands here. -/
import Derived.Test.YtcjdbmcklemkkaaDoorRX
namespace Go.Vc
open Go
set_option linter.unusedSimpArgs false
set_option linter.unusedVariables false
theorem readGo_all (p : RuleV → Prop) (hp : ∀ ws, (ruleOf ws).2 = true → p (ruleOf ws).1) : ∀ (L : List (List UInt8)) (acc : List RuleV) (n : Nat), (∀ r ∈ acc, p r) → ∀ r ∈ (readGo L acc n).1, p r
  | [], acc, n, h => by rw [readGo_nil]; exact h
  | s :: L, acc, n, h => by
    rw [readGo_cons]
    split
    · exact readGo_all p hp L acc (n + 1) h
    · split
      · simp
      · rename_i hok
        split
        · simp
        · refine readGo_all p hp L _ (n + 1) ?_
          intro r hr
          rcases List.mem_append.1 hr with hr | hr
          · exact h r hr
          · simp only [List.mem_cons, List.not_mem_nil, or_false] at hr
            subst hr
            exact hp _ (by simpa using hok)
theorem readOf_all (p : RuleV → Prop) (hp : ∀ ws, (ruleOf ws).2 = true → p (ruleOf ws).1) (s : List UInt8) : ∀ r ∈ (readOf s).1, p r := by
  unfold readOf
  split
  · simp
  · exact readGo_all p hp _ [] 0 (by simp)
theorem side_len {s : List UInt8} (h : (sideOf s).2 = true) : (sideOf s).1.length ≤ 17 := by
  rcases side_cases h with ⟨h1, _⟩ | ⟨h1, _, h2⟩
  · rw [h1]; simp
  · rw [h1]
    have := (name_az h2).2.1
    unfold bangless at this
    split at this
    · simp at this; omega
    · omega
theorem rule_small {ws : List (List UInt8)} (h : (ruleOf ws).2 = true) : (ruleOf ws).1.cells.length ≤ 16 ∧ (ruleOf ws).1.name.length ≤ 16 ∧ (ruleOf ws).1.left.length ≤ 17 ∧ (ruleOf ws).1.right.length ≤ 17 := by
  obtain ⟨f, hf, hi, he⟩ := ruleOf_form h
  simp only [formIs, Bool.and_eq_true, beq_iff_eq] at hi
  obtain ⟨hw, hl⟩ := hi
  simp only [formsL, List.mem_cons, List.not_mem_nil, or_false] at hf
  rw [he] at h ⊢
  rcases hf with rfl | rfl | rfl | rfl | rfl | rfl
  · obtain ⟨x, a, b, rfl⟩ := len3 hl
    simp only [List.tail_cons, readAll, rdRun, if_true] at h ⊢
    cases ha : isNameB a with
    | false => rw [ha] at h; simp at h
    | true =>
      simp only [if_true]
      exact ⟨Nat.zero_le _, (name_az ha).2.1, Nat.zero_le _, Nat.zero_le _⟩
  · obtain ⟨x, a, b, rfl⟩ := len3 hl
    simp only [List.tail_cons, readAll, rdRun, if_true] at h ⊢
    cases ha : ((runesR a ((1 : Nat) : Int)).2 && decide (((1 : Nat) : Int) ≤ ((runesR a ((1 : Nat) : Int)).1.length : Int))) with
    | false => rw [ha] at h; simp at h
    | true =>
      rw [ha] at h
      simp only [if_true, Bool.and_eq_true, decide_eq_true_eq] at h ⊢
      exact ⟨by omega, Nat.zero_le _, Nat.zero_le _, Nat.zero_le _⟩
  · obtain ⟨x, a, b, c, d, rfl⟩ := len5 hl
    simp only [List.tail_cons, readAll, rdRun, if_true] at h ⊢
    cases ha : ((runesR a ((16 : Nat) : Int)).2 && decide (((1 : Nat) : Int) ≤ ((runesR a ((16 : Nat) : Int)).1.length : Int))) with
    | false => rw [ha] at h; simp at h
    | true =>
      rw [ha] at h
      simp only [if_true] at h ⊢
      cases hb : ((parseDots b).2 == 0 && decide (((1 : Nat) : Int) ≤ ((parseDots b).1.length : Int)) && decide (((parseDots b).1.length : Int) ≤ ((8 : Nat) : Int))) with
      | false => rw [hb] at h; simp at h
      | true =>
        rw [hb] at h
        simp only [if_true] at h ⊢
        cases hc : (sideOf c).2 with
        | false => rw [hc] at h; simp at h
        | true =>
          rw [hc] at h
          simp only [if_true] at h ⊢
          simp only [Bool.and_eq_true, decide_eq_true_eq] at hb
          exact ⟨by omega, Nat.zero_le _, side_len hc, side_len h⟩
  all_goals
    obtain ⟨x, b, rfl⟩ := len2 hl
    simp only [List.tail_cons, readAll, rdRun, if_true] at h ⊢
    simp only [Bool.and_eq_true, decide_eq_true_eq] at h
    exact ⟨by omega, Nat.zero_le _, Nat.zero_le _, Nat.zero_le _⟩
theorem writeOf_ok {rs : List RuleV} (h : ∀ r ∈ rs, (tellOf r).isSome = true) (hl : rs.length ≤ 2000) : writeOf rs = if (linesOf rs).length > 131072 then ([], 3) else (linesOf rs, 0) := by
  have hn : rs.any (fun r => (tellOf r).isNone) = false := by
    rw [List.any_eq_false]; intro r hr; have := h r hr; cases ht : tellOf r <;> simp_all
  rw [writeOf, hn, if_neg (by decide)]
  by_cases h2 : (linesOf rs).length > 131072
  · rw [if_pos (.inr h2), if_pos h2]
  · rw [if_neg (by omega), if_neg h2]
theorem readGo_line : ∀ (L : List (List UInt8)) (acc : List RuleV) (n : Nat), (readGo L acc n).2.1 ≤ n + L.length
  | [], acc, n => by rw [readGo_nil]; simp
  | s :: L, acc, n => by
    rw [readGo_cons]
    have h1 := readGo_line L acc (n + 1)
    have h2 := readGo_line L (acc ++ [(ruleOf (wordsOf s)).1]) (n + 1)
    simp only [List.length_cons]
    split
    · omega
    · split
      · simp only; omega
      · split
        · simp only; omega
        · omega
theorem readOf_line (s : List UInt8) : (readOf s).2.1 ≤ 131073 := by
  unfold readOf
  split
  · simp
  · have h1 := readGo_line (splitL 10 s) [] 0
    have h2 := splitL_num 10 s
    omega
end Go.Vc
