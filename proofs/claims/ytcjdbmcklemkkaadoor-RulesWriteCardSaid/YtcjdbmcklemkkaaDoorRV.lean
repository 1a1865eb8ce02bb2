/- What is written is read again; no program stands here. -/
import Derived.Test.YtcjdbmcklemkkaaDoorRR
namespace Go.Vc
open Go
set_option linter.unusedSimpArgs false
set_option linter.unusedVariables false

/-! ### runes -/
theorem hexV_hexd : ∀ d, d < 16 → hexV (hexd d) = some d := by decide
theorem hexGo_at (r : Int) (h0 : 0 ≤ r) (h1 : r ≤ 1114111) : hexGo ((List.range 6).map (hexAt r)) 0 = some r.toNat := by
  have e : (List.range 6).map (hexAt r) = [hexAt r 0, hexAt r 1, hexAt r 2, hexAt r 3, hexAt r 4, hexAt r 5] := rfl
  rw [e]
  have hv : ∀ k, hexV (hexAt r k) = some (r.toNat / 16 ^ (5 - k) % 16) := fun k => hexV_hexd _ (Nat.mod_lt _ (by decide))
  simp only [hexGo, hv]
  simp only [Option.some.injEq]
  have e0 : 16 ^ (5 - 0) = 1048576 := rfl
  have e1 : 16 ^ (5 - 1) = 65536 := rfl
  have e2 : 16 ^ (5 - 2) = 4096 := rfl
  have e3 : 16 ^ (5 - 3) = 256 := rfl
  have e4 : 16 ^ (5 - 4) = 16 := rfl
  have e5 : 16 ^ (5 - 5) = 1 := rfl
  rw [e0, e1, e2, e3, e4, e5]
  omega
theorem told1_length_hex (r : Int) : ((List.range 6).map (hexAt r)).length = 6 := by simp
theorem rune1_told1 (r : Int) (h : isRuneB r = true) (t : List UInt8) : rune1 (told1 r ++ t) = some (r, t) := by
  obtain ⟨h0, h1⟩ := isRuneB_ok h
  unfold told1
  cases hp : plainB r with
  | true =>
    have hr : 32 < r ∧ r < 127 := by simp [plainB] at hp; omega
    have e : ((UInt8.ofNat r.toNat).toNat : Int) = r := by rw [UInt8.toNat_ofNat']; omega
    simp only [if_true, List.cons_append, List.nil_append, rune1, e, hp]
  | false =>
    have h92 : plainB ((92 : UInt8).toNat : Int) = false := rfl
    simp only [Bool.false_eq_true, if_false, List.cons_append, rune1, h92]
    rw [if_pos ⟨trivial, by simp⟩]
    have e1 : ((List.range 6).map (hexAt r) ++ t).take 6 = (List.range 6).map (hexAt r) := by
      have := List.take_left (l₁ := (List.range 6).map (hexAt r)) (l₂ := t)
      rwa [told1_length_hex] at this
    have e2 : ((List.range 6).map (hexAt r) ++ t).drop 6 = t := by
      have := List.drop_left (l₁ := (List.range 6).map (hexAt r)) (l₂ := t)
      rwa [told1_length_hex] at this
    rw [e1, e2, hexGo_at r h0 h1]
    have e3 : ((r.toNat : Nat) : Int) = r := Int.toNat_of_nonneg h0
    simp only [e3]
    rw [if_neg (by rw [hp, h]; simp)]
theorem runesL_told : ∀ (l : List Int), (∀ r ∈ l, isRuneB r = true) → runesL (toldL l) = some l
  | [], _ => rfl
  | r :: l, h => by
    have e : toldL (r :: l) = told1 r ++ toldL l := by simp [toldL]
    rw [e, runesL_some (rune1_told1 r (h r (by simp)) (toldL l)), runesL_told l (fun x hx => h x (by simp [hx]))]
    rfl
theorem hexGo_some_lt : True := trivial
/-- What a text's runes are. -/
theorem rune1_isRune {s t : List UInt8} {r : Int} (h : rune1 s = some (r, t)) : isRuneB r = true := by
  cases s with
  | nil => cases h
  | cons c l =>
    simp only [rune1] at h
    split at h
    · rename_i hp
      cases h
      have := c.toNat_lt
      simp [plainB] at hp
      simp [isRuneB]; omega
    · split at h
      · split at h
        · rename_i n hn
          split at h
          · cases h
          · rename_i h2; cases h
            simp only [not_or] at h2
            simpa using h2.2
        · cases h
      · cases h
theorem runesF_isRune : ∀ (n : Nat) (s : List UInt8) (l : List Int), runesF n s = some l → ∀ r ∈ l, isRuneB r = true
  | _, [], l, h, r, hr => by
    have : l = [] := by cases ‹Nat› <;> simp [runesF] at h <;> exact h
    subst this; cases hr
  | 0, c :: s, l, h, r, hr => by simp [runesF] at h
  | n + 1, c :: s, l, h, r, hr => by
    simp only [runesF] at h
    split at h
    · cases h
    · rename_i x t h1
      obtain ⟨l', hl', rfl⟩ := Option.map_eq_some_iff.1 h
      rcases List.mem_cons.1 hr with rfl | hr
      · exact rune1_isRune h1
      · exact runesF_isRune n t l' hl' r hr

/-! ### dots -/
theorem pstep_l (x : PSt) (r : Int) (h : r ≠ 45) (l : List UInt8) : pstep { x with l := l } r = (pstep x r).map fun y => { y with l := l } := by
  unfold pstep
  simp only
  have a1 : ¬ (r = 45 ∧ x.last = 48 ∧ x.none_ = true) := fun hh => h hh.1
  rw [if_neg a1, if_neg a1, if_neg h, if_neg h]
  by_cases b1 : r = 48 ∧ x.none_ = true
  · rw [if_pos b1, if_pos b1]; rfl
  · rw [if_neg b1, if_neg b1]
    by_cases b2 : r > x.last ∧ r ≤ 56 ∧ (x.none_ = true ∨ x.last ≠ 56)
    · rw [if_pos b2, if_pos b2]; rfl
    · rw [if_neg b2, if_neg b2]; rfl
theorem parseGo_l : ∀ (s : List UInt8) (x : PSt) (l : List UInt8), (∀ b ∈ s, b ≠ 45) → parseGo s { x with l := l } = (parseGo s x).map fun y => { y with l := l }
  | [], x, l, _ => rfl
  | b :: s, x, l, h => by
    have hb : ((b.toNat : Nat) : Int) ≠ 45 := by
      intro h2
      have : b = 45 := UInt8.toNat_inj.1 (by rw [show (45 : UInt8).toNat = 45 from rfl]; omega)
      exact h b (by simp) this
    simp only [parseGo]
    rw [pstep_l x _ hb l]
    cases pstep x ((b.toNat : Nat) : Int) with
    | none => rfl
    | some y => exact parseGo_l s y l (fun c hc => h c (by simp [hc]))
theorem cell_parse0 : ∀ n, n < 256 → (parseGo (cellOf (UInt8.ofNat n)) ⟨[], 0, 48, true⟩).map (fun y => (y.c, y.none_)) = some (UInt8.ofNat n, false) := by decide +kernel
theorem cell_no45 : ∀ n, n < 256 → ∀ b ∈ cellOf (UInt8.ofNat n), b ≠ 45 := by decide +kernel
theorem u8_forall {p : UInt8 → Prop} (h : ∀ n, n < 256 → p (UInt8.ofNat n)) (c : UInt8) : p c := by
  have := h c.toNat c.toNat_lt
  rwa [UInt8.ofNat_toNat] at this
theorem parseGo_append : ∀ (a b : List UInt8) (x : PSt), parseGo (a ++ b) x = (parseGo a x).bind (parseGo b)
  | [], b, x => rfl
  | c :: a, b, x => by
    simp only [List.cons_append, parseGo]
    cases pstep x ((c.toNat : Nat) : Int) with
    | none => rfl
    | some y => exact parseGo_append a b y
theorem parse_cell (c : UInt8) (l : List UInt8) : parseGo (cellOf c ++ [45]) ⟨l, 0, 48, true⟩ = some ⟨l ++ [c], 0, 48, true⟩ := by
  have h1 := u8_forall (p := fun c => (parseGo (cellOf c) ⟨[], 0, 48, true⟩).map (fun y => (y.c, y.none_)) = some (c, false)) cell_parse0 c
  have h2 := u8_forall (p := fun c => ∀ b ∈ cellOf c, b ≠ 45) cell_no45 c
  obtain ⟨y, hy, hy2⟩ := Option.map_eq_some_iff.1 h1
  simp only [Prod.mk.injEq] at hy2
  have h3 := parseGo_l (cellOf c) ⟨[], 0, 48, true⟩ l h2
  rw [hy] at h3
  rw [parseGo_append]
  have e : ({ l := l, c := 0, last := 48, none_ := true } : PSt) = { ({ l := [], c := 0, last := 48, none_ := true } : PSt) with l := l } := rfl
  rw [e, h3]
  simp only [Option.map_some, Option.bind_some, parseGo]
  have h45 : (((45 : UInt8).toNat : Nat) : Int) = 45 := rfl
  rw [h45]
  unfold pstep
  simp only [hy2.1, hy2.2]
  simp
theorem parse_cells : ∀ (cs : List UInt8) (l : List UInt8), parseGo (cs.flatMap fun c => cellOf c ++ [45]) ⟨l, 0, 48, true⟩ = some ⟨l ++ cs, 0, 48, true⟩
  | [], l => by simp [parseGo]
  | c :: cs, l => by
    rw [List.flatMap_cons, parseGo_append, parse_cell, Option.bind_some, parse_cells cs (l ++ [c])]
    simp
theorem textDots_end : ∀ (cs : List UInt8) (c : UInt8), textDots (c :: cs) ++ [45] = (c :: cs).flatMap fun c => cellOf c ++ [45]
  | [], c => by simp [textDots]
  | d :: cs, c => by
    have ih := textDots_end cs d
    simp only [textDots, List.flatMap_cons] at ih ⊢
    rw [List.append_assoc, List.append_assoc, ← ih]
    simp
theorem cellOf_ne (c : UInt8) : cellOf c ≠ [] := u8_forall (p := fun c => cellOf c ≠ []) (by decide +kernel) c
theorem parse_text (cs : List UInt8) (h : cs ≠ []) : parseDots (textDots cs) = (cs, 0) := by
  cases cs with
  | nil => exact absurd rfl h
  | cons c cs =>
    have hne : textDots (c :: cs) ≠ [] := by simp [textDots, cellOf_ne]
    rw [parseDots, if_neg hne, textDots_end, parse_cells]
    simp

/-! ### sides -/
theorem side_star {s : List UInt8} (h : (sideOf s).2 = true) : sideOf (starOf (sideOf s).1) = ((sideOf s).1, true) := by
  unfold sideOf at h ⊢
  by_cases hs : s = [42]
  · subst hs; rfl
  · rw [if_neg hs] at h ⊢
    simp only at h ⊢
    have hne : s ≠ [] := by rintro rfl; simp [bangless, isNameB] at h
    rw [starOf, if_neg hne, if_neg hs, h]
end Go.Vc
