/- A rule that is read is told, in words that are read again; no program stands here. -/
import Derived.Test.YtcjdbmcklemkkaaDoorRV
namespace Go.Vc
open Go
set_option linter.unusedSimpArgs false
set_option linter.unusedVariables false

/-- A word that stands in a line. -/
def Good (w : List UInt8) : Prop := w ≠ [] ∧ w.head? ≠ some 35 ∧ ∀ c ∈ w, c ≠ 10 ∧ c ≠ 32
theorem Good.no32 {w : List UInt8} (h : Good w) : w.contains 32 = false := by
  cases hc : w.contains 32 with
  | false => rfl
  | true => have := List.contains_iff_mem.1 hc; exact absurd rfl (h.2.2 32 this).2
theorem az_good {c : UInt8} (h : 97 ≤ c.toNat) : c ≠ 10 ∧ c ≠ 32 ∧ c ≠ 35 := by
  refine ⟨?_, ?_, ?_⟩ <;> rintro rfl <;> revert h <;> decide
theorem name_az {a : List UInt8} (h : isNameB a = true) : a ≠ [] ∧ a.length ≤ 16 ∧ ∀ c ∈ a, 97 ≤ c.toNat := by
  simp only [isNameB, Bool.and_eq_true, decide_eq_true_eq, List.all_eq_true] at h
  refine ⟨?_, by omega, fun c hc => (h.2 c hc).1⟩
  rintro rfl; simp at h
theorem good_az {a : List UInt8} (h0 : a ≠ []) (h : ∀ c ∈ a, 97 ≤ c.toNat) : Good a := by
  refine ⟨h0, ?_, fun c hc => ⟨(az_good (h c hc)).1, (az_good (h c hc)).2.1⟩⟩
  intro h2
  cases a with
  | nil => cases h2
  | cons c l => simp only [List.head?_cons, Option.some.injEq] at h2; exact (az_good (h c (by simp))).2.2 h2
theorem good_name {a : List UInt8} (h : isNameB a = true) : Good a := good_az (name_az h).1 (name_az h).2.2
theorem hexd_ok : ∀ d, d < 16 → hexd d ≠ 10 ∧ hexd d ≠ 32 := by decide
theorem told1_ok (r : Int) : told1 r ≠ [] ∧ (told1 r).head? ≠ some 35 ∧ ∀ c ∈ told1 r, c ≠ 10 ∧ c ≠ 32 := by
  unfold told1
  split
  · rename_i hp
    have hr : 32 < r ∧ r < 127 ∧ r ≠ 35 := by simp [plainB] at hp; omega
    have e : (UInt8.ofNat r.toNat).toNat = r.toNat := by rw [UInt8.toNat_ofNat']; omega
    have hne : ∀ k : UInt8, (k.toNat : Int) ≠ r → UInt8.ofNat r.toNat ≠ k := by
      intro k hk h; rw [← h, e] at hk; omega
    refine ⟨by simp, ?_, ?_⟩
    · simp only [List.head?_cons, ne_eq, Option.some.injEq]
      exact hne 35 (by rw [show (35 : UInt8).toNat = 35 from rfl]; omega)
    · intro c hc
      simp only [List.mem_cons, List.not_mem_nil, or_false] at hc
      subst hc
      exact ⟨hne 10 (by rw [show (10 : UInt8).toNat = 10 from rfl]; omega), hne 32 (by rw [show (32 : UInt8).toNat = 32 from rfl]; omega)⟩
  · refine ⟨by simp, by simp, ?_⟩
    intro c hc
    rcases List.mem_cons.1 hc with rfl | hc
    · decide
    · obtain ⟨k, _, rfl⟩ := List.mem_map.1 hc
      exact hexd_ok _ (Nat.mod_lt _ (by decide))
theorem good_told {l : List Int} (h : l ≠ []) : Good (toldL l) := by
  refine ⟨?_, ?_, ?_⟩
  · cases l with
    | nil => exact absurd rfl h
    | cons r l => simp [toldL, (told1_ok r).1]
  · cases l with
    | nil => exact absurd rfl h
    | cons r l =>
      have h1 := told1_ok r
      simp only [toldL, List.flatMap_cons]
      cases ht : told1 r with
      | nil => exact absurd ht h1.1
      | cons c t => rw [ht] at h1; simpa using h1.2.1
  · intro c hc
    simp only [toldL, List.mem_flatMap] at hc
    obtain ⟨r, _, hc⟩ := hc
    exact (told1_ok r).2.2 c hc
theorem cell_good (c : UInt8) : ∀ b ∈ cellOf c, b ≠ 10 ∧ b ≠ 32 ∧ b ≠ 35 := u8_forall (p := fun c => ∀ b ∈ cellOf c, b ≠ 10 ∧ b ≠ 32 ∧ b ≠ 35) (by decide +kernel) c
theorem good_dots {cs : List UInt8} (h : cs ≠ []) : Good (textDots cs) := by
  cases cs with
  | nil => exact absurd rfl h
  | cons c cs =>
    have hall : ∀ b ∈ textDots (c :: cs), b ≠ 10 ∧ b ≠ 32 ∧ b ≠ 35 := by
      intro b hb
      simp only [textDots, List.mem_append, List.mem_flatMap, List.mem_cons] at hb
      rcases hb with hb | ⟨d, _, hb | hb⟩
      · exact cell_good c b hb
      · subst hb; decide
      · exact cell_good d b hb
    refine ⟨by simp [textDots, cellOf_ne], ?_, fun b hb => ⟨(hall b hb).1, (hall b hb).2.1⟩⟩
    intro h2
    exact (hall 35 (List.mem_of_mem_head? h2)).2.2 rfl
theorem side_cases {s : List UInt8} (h : (sideOf s).2 = true) : ((sideOf s).1 = [] ∧ s = [42]) ∨ ((sideOf s).1 = s ∧ s ≠ [42] ∧ isNameB (bangless s) = true) := by
  unfold sideOf at h ⊢
  by_cases hs : s = [42]
  · left; rw [if_pos hs]; exact ⟨rfl, hs⟩
  · right; rw [if_neg hs] at h ⊢; exact ⟨rfl, hs, h⟩
theorem good_side {s : List UInt8} (h : isNameB (bangless s) = true) : Good s := by
  unfold bangless at h
  split at h
  · rename_i hp
    cases s with
    | nil => simp at hp
    | cons c l =>
      have hc : c = 33 := by simp at hp; exact hp.symm
      subst hc
      simp only [List.drop_succ_cons, List.drop_zero] at h
      have := name_az h
      refine ⟨by simp, by simp, fun c hc => ?_⟩
      rcases List.mem_cons.1 hc with rfl | hc
      · decide
      · exact ⟨(az_good (this.2.2 c hc)).1, (az_good (this.2.2 c hc)).2.1⟩
  · exact good_name h
theorem good_star {s : List UInt8} (h : (sideOf s).2 = true) : Good (starOf (sideOf s).1) := by
  rcases side_cases h with ⟨h1, _⟩ | ⟨h1, _, h2⟩
  · rw [h1]; exact ⟨by decide, by decide, by decide⟩
  · have hg := good_side h2
    rw [h1, starOf, if_neg hg.1]; exact hg
theorem runesR_ok {b : List UInt8} {m : Int} (h : (runesR b m).2 = true) : (runesR b m).1 ≠ [] ∧ ((runesR b m).1.length : Int) ≤ m ∧ (∀ r ∈ (runesR b m).1, isRuneB r = true) ∧ runesR (toldL (runesR b m).1) m = ((runesR b m).1, true) := by
  unfold runesR at h ⊢
  cases hl : runesL b with
  | none => rw [hl] at h; cases h
  | some l =>
    rw [hl] at h
    simp only [Bool.and_eq_true, decide_eq_true_eq] at h ⊢
    have hr : ∀ r ∈ l, isRuneB r = true := runesF_isRune _ _ _ hl
    refine ⟨by rintro rfl; simp at h, h.2, hr, ?_⟩
    rw [runesL_told l hr]
    simp [h]

theorem any_rune {l : List Int} (h : ∀ r ∈ l, isRuneB r = true) : l.any (fun x => !isRuneB x) = false := by
  rw [List.any_eq_false]; intro x hx; rw [h x hx]; decide
theorem any32 {ws : List (List UInt8)} (h : ∀ w ∈ ws, Good w) : ws.any (fun w => w.contains 32) = false := by
  rw [List.any_eq_false]; intro w hw; rw [(h w hw).no32]; decide

theorem len2 {α : Type} {l : List α} (h : l.length = 2) : ∃ a b, l = [a, b] := by
  match l, h with
  | [a, b], _ => exact ⟨a, b, rfl⟩
theorem len3 {α : Type} {l : List α} (h : l.length = 3) : ∃ a b c, l = [a, b, c] := by
  match l, h with
  | [a, b, c], _ => exact ⟨a, b, c, rfl⟩
theorem len5 {α : Type} {l : List α} (h : l.length = 5) : ∃ a b c d e, l = [a, b, c, d, e] := by
  match l, h with
  | [a, b, c, d, e], _ => exact ⟨a, b, c, d, e, rfl⟩

/-- Told by its form. -/
theorem tellOf_by {r : RuleV} {f : FormV} (hf : formsL.find? (fun g => g.kind == r.kind) = some f) (ht : r.text.length ≤ 200) (hr : ∀ x ∈ r.text, isRuneB x = true) (hg : ∀ w ∈ f.word :: tellWords f r, Good w) (hb : ruleOf (f.word :: tellWords f r) = (r, true)) :
    tellOf r = some (f.word :: tellWords f r) := by
  rw [tellOf, hf]
  simp only
  rw [any_rune hr, show decide (r.text.length > 200) = false by simp; omega, any32 hg]
  simp [hb]

theorem ruleOf_form {ws : List (List UInt8)} (h : (ruleOf ws).2 = true) : ∃ f ∈ formsL, formIs ws f = true ∧ ruleOf ws = readAll f.rds ws.tail ({ RuleV.zero with kind := f.kind }, true) := by
  unfold ruleOf at h ⊢
  cases hf : formsL.find? (formIs ws) with
  | none => rw [hf] at h; cases h
  | some f => exact ⟨f, List.mem_of_find?_eq_some hf, List.find?_some hf, rfl⟩

set_option maxHeartbeats 1000000 in
theorem rule_canon {ws : List (List UInt8)} (h : (ruleOf ws).2 = true) : ∃ l, tellOf (ruleOf ws).1 = some l ∧ (∀ w ∈ l, Good w) ∧ l ≠ [] := by
  obtain ⟨f, hf, hi, he⟩ := ruleOf_form h
  simp only [formIs, Bool.and_eq_true, beq_iff_eq] at hi
  obtain ⟨hw, hl⟩ := hi
  simp only [formsL, List.mem_cons, List.not_mem_nil, or_false] at hf
  rw [he] at h ⊢
  rcases hf with rfl | rfl | rfl | rfl | rfl | rfl
  · obtain ⟨x, a, b, rfl⟩ := len3 hl
    simp only [List.tail_cons, readAll, rdRun, if_true] at h ⊢
    cases ha : isNameB a with
    | false => rw [ha] at h; simp at h
    | true =>
      rw [ha] at h
      simp only [if_true, Bool.and_eq_true] at h ⊢
      obtain ⟨h1, h2, h3, h4⟩ := runesR_ok h.1
      have hg : ∀ w ∈ [[99, 108, 97, 115, 115], a, toldL (runesR b 200).1], Good w := by
        intro w hw
        simp only [List.mem_cons, List.not_mem_nil, or_false] at hw
        rcases hw with rfl | rfl | rfl
        · exact ⟨by decide, by decide, by decide⟩
        · exact good_name ha
        · exact good_told h1
      refine ⟨_, tellOf_by rfl (by simp only; omega) h3 hg ?_, hg, by simp⟩
      show readAll [.name, .text 1 200] [a, toldL (runesR b 200).1] ({ RuleV.zero with kind := 1 }, true) = _
      have h5 := h.2
      simp only [decide_eq_true_eq] at h5
      simp only [readAll, rdRun, if_true, ha]
      rw [show ((200 : Nat) : Int) = 200 from rfl] at *
      rw [h4]
      simp; omega
  · obtain ⟨x, a, b, rfl⟩ := len3 hl
    simp only [List.tail_cons, readAll, rdRun, if_true] at h ⊢
    rw [show ((1 : Nat) : Int) = 1 from rfl] at *
    cases ha : ((runesR a 1).2 && decide (1 ≤ ((runesR a 1).1.length : Int))) with
    | false => rw [ha] at h; simp at h
    | true =>
      rw [ha] at h
      simp only [if_true, Bool.and_eq_true, decide_eq_true_eq, beq_iff_eq] at h ha ⊢
      obtain ⟨h1, h2, h3, h4⟩ := runesR_ok ha.1
      have hne : (parseDots b).1 ≠ [] := by intro h0; rw [h0] at h; simp at h
      have hg : ∀ w ∈ [[115, 105, 103, 110], toldL (runesR a 1).1, textDots (parseDots b).1], Good w := by
        intro w hw
        simp only [List.mem_cons, List.not_mem_nil, or_false] at hw
        rcases hw with rfl | rfl | rfl
        · exact ⟨by decide, by decide, by decide⟩
        · exact good_told h1
        · exact good_dots hne
      refine ⟨_, tellOf_by rfl (by simp only; omega) h3 hg ?_, hg, by simp⟩
      show readAll [.text 1 1, .cells 1 8] [toldL (runesR a 1).1, textDots (parseDots b).1] ({ RuleV.zero with kind := 2 }, true) = _
      simp only [readAll, rdRun, if_true]
      rw [show ((1 : Nat) : Int) = 1 from rfl, h4, parse_text _ hne]
      have h6 := ha.2
      simp [h6]; omega
  · obtain ⟨x, a, b, c, d, rfl⟩ := len5 hl
    simp only [List.tail_cons, readAll, rdRun, if_true] at h ⊢
    rw [show ((16 : Nat) : Int) = 16 from rfl, show ((1 : Nat) : Int) = 1 from rfl, show ((8 : Nat) : Int) = 8 from rfl] at *
    cases ha : ((runesR a 16).2 && decide (1 ≤ ((runesR a 16).1.length : Int))) with
    | false => rw [ha] at h; simp at h
    | true =>
      rw [ha] at h
      simp only [if_true] at h ⊢
      cases hb : ((parseDots b).2 == 0 && decide (1 ≤ ((parseDots b).1.length : Int)) && decide (((parseDots b).1.length : Int) ≤ 8)) with
      | false => rw [hb] at h; simp at h
      | true =>
        rw [hb] at h
        simp only [if_true] at h ⊢
        cases hc : (sideOf c).2 with
        | false => rw [hc] at h; simp at h
        | true =>
          rw [hc] at h
          simp only [if_true] at h ⊢
          simp only [Bool.and_eq_true, decide_eq_true_eq, beq_iff_eq] at ha hb
          obtain ⟨h1, h2, h3, h4⟩ := runesR_ok ha.1
          have hne : (parseDots b).1 ≠ [] := by intro h0; rw [h0] at hb; simp at hb
          have hg : ∀ w ∈ [[112, 97, 114, 116], toldL (runesR a 16).1, textDots (parseDots b).1, starOf (sideOf c).1, starOf (sideOf d).1], Good w := by
            intro w hw
            simp only [List.mem_cons, List.not_mem_nil, or_false] at hw
            rcases hw with rfl | rfl | rfl | rfl | rfl
            · exact ⟨by decide, by decide, by decide⟩
            · exact good_told h1
            · exact good_dots hne
            · exact good_star hc
            · exact good_star h
          refine ⟨_, tellOf_by rfl (by simp only; omega) h3 hg ?_, hg, by simp⟩
          show readAll [.text 1 16, .cells 1 8, .left, .right] [toldL (runesR a 16).1, textDots (parseDots b).1, starOf (sideOf c).1, starOf (sideOf d).1] ({ RuleV.zero with kind := 3 }, true) = _
          simp only [readAll, rdRun, if_true]
          rw [show ((1 : Nat) : Int) = 1 from rfl, show ((16 : Nat) : Int) = 16 from rfl, show ((8 : Nat) : Int) = 8 from rfl, h4, parse_text _ hne, side_star hc, side_star h]
          have h6 := ha.2
          simp [h6, hb.1.2, hb.2]
  · obtain ⟨x, b, rfl⟩ := len2 hl
    simp only [List.tail_cons, readAll, rdRun, if_true] at h ⊢
    simp only [Bool.and_eq_true, decide_eq_true_eq, beq_iff_eq] at h ⊢
    have hne : (parseDots b).1 ≠ [] := by intro h0; rw [h0] at h; simp at h
    have hg : ∀ w ∈ [[99, 97, 112, 105, 116, 97, 108], textDots (parseDots b).1], Good w := by
      intro w hw
      simp only [List.mem_cons, List.not_mem_nil, or_false] at hw
      rcases hw with rfl | rfl
      · exact ⟨by decide, by decide, by decide⟩
      · exact good_dots hne
    refine ⟨_, tellOf_by rfl (Nat.zero_le _) (by intro x hx; cases hx) hg ?_, hg, by simp⟩
    show readAll [.cells 1 8] [textDots (parseDots b).1] ({ RuleV.zero with kind := 4 }, true) = _
    simp only [readAll, rdRun, if_true]
    rw [parse_text _ hne]
    simp; omega
  · obtain ⟨x, b, rfl⟩ := len2 hl
    simp only [List.tail_cons, readAll, rdRun, if_true] at h ⊢
    simp only [Bool.and_eq_true, decide_eq_true_eq, beq_iff_eq] at h ⊢
    have hne : (parseDots b).1 ≠ [] := by intro h0; rw [h0] at h; simp at h
    have hg : ∀ w ∈ [[101, 115, 99, 97, 112, 101], textDots (parseDots b).1], Good w := by
      intro w hw
      simp only [List.mem_cons, List.not_mem_nil, or_false] at hw
      rcases hw with rfl | rfl
      · exact ⟨by decide, by decide, by decide⟩
      · exact good_dots hne
    refine ⟨_, tellOf_by rfl (Nat.zero_le _) (by intro x hx; cases hx) hg ?_, hg, by simp⟩
    show readAll [.cells 1 1] [textDots (parseDots b).1] ({ RuleV.zero with kind := 5 }, true) = _
    simp only [readAll, rdRun, if_true]
    rw [parse_text _ hne]
    simp; omega
  · obtain ⟨x, b, rfl⟩ := len2 hl
    simp only [List.tail_cons, readAll, rdRun, if_true] at h ⊢
    simp only [Bool.and_eq_true, decide_eq_true_eq, beq_iff_eq] at h ⊢
    have hne : (parseDots b).1 ≠ [] := by intro h0; rw [h0] at h; simp at h
    have hg : ∀ w ∈ [[104, 101, 120], textDots (parseDots b).1], Good w := by
      intro w hw
      simp only [List.mem_cons, List.not_mem_nil, or_false] at hw
      rcases hw with rfl | rfl
      · exact ⟨by decide, by decide, by decide⟩
      · exact good_dots hne
    refine ⟨_, tellOf_by rfl (Nat.zero_le _) (by intro x hx; cases hx) hg ?_, hg, by simp⟩
    show readAll [.cells 16 16] [textDots (parseDots b).1] ({ RuleV.zero with kind := 6 }, true) = _
    simp only [readAll, rdRun, if_true]
    rw [parse_text _ hne]
    simp; omega
/-- What a rule's words are. -/
theorem tellOf_good {r : RuleV} {l : List (List UInt8)} (h : tellOf r = some l) : (∀ w ∈ l, Good w) ∧ l ≠ [] ∧ ruleOf l = (r, true) := by
  have h0 := h
  rw [tellOf] at h
  split at h
  · cases h
  · rename_i f hf
    split at h
    · cases h
    · simp only at h
      split at h
      · cases h
      · split at h
        · rename_i h2
          simp only [Option.some.injEq] at h
          subst h
          obtain ⟨l', h3, h4, h5⟩ := rule_canon h2.1
          rw [h2.2, h0] at h3
          simp only [Option.some.injEq] at h3
          subst h3
          exact ⟨h4, h5, Prod.ext h2.2 h2.1⟩
        · cases h
end Go.Vc
