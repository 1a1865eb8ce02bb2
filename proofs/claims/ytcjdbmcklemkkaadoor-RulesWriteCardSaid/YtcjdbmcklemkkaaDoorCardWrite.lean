/- RulesWrite of tactilelaw23 answers true for all rules: the text of any rules, and whether each may be, are the document's; the text is read again; the rules stay as they were. Conditions: the package variables that the row lists start as the program's text lays them (tied). -/
import Derived.Test.YtcjdbmcklemkkaaDoorSI
import Derived.Test.YtcjdbmcklemkkaaDoorVcOpen
import Derived.Test.YtcjdbmcklemkkaaDoorCards
import Derived.Test.YtcjdbmcklemkkaaDoorTie
namespace Go.Proofs.YtcjdbmcklemkkaaDoor
open Go.ChangeShapes Go.WideShapes Go.ChangeAt Go.ChangeMaps
open Go Go.Proofs Go.Vc Go.RowKit
set_option maxRecDepth 100000
set_option linter.unusedSimpArgs false
set_option linter.unusedVariables false


theorem own : ownKnob Tryd.prog.godebug = none := by kernel_rfl
theorem laidOut : laidOutB Tryd.prog = true := by kernel_rfl

theorem opened_rule {H : Type} (enc : TypeId × Value → H) (W : World) : Opened enc Tryd.prog W 36 elRule := by
  intro spare held n cs d h
  obtain ⟨xs, k, _, _, hlen, hxl, hf⟩ := DataW.trod_struct Tryd.underlying36 h
  have hc6 : cs.length = 6 := hlen.trans (by kernel_rfl)
  match cs, hc6 with
  | [c0, c1, c2, c3, c4, c5], _ =>
    have hx : xs.length = 6 := hxl
    match xs, hx with
    | [y0, y1, y2, y3, y4, y5], _ =>
      have g0 := hf 0 _ rfl
      have g1 := hf 1 _ rfl
      have g2 := hf 2 _ rfl
      have g3 := hf 3 _ rfl
      have g4 := hf 4 _ rfl
      have g5 := hf 5 _ rfl
      rw [show Tryd.prog.cellsOf _ = 1 by kernel_rfl] at g0 g1 g2 g3 g4 g5
      have e0 : DataW.trod enc Tryd.prog W 0 spare held k 5 [c0] = some y0 := g0
      have e1 : DataW.trod enc Tryd.prog W 0 spare held k 9 [c1] = some y1 := g1
      have e2 : DataW.trod enc Tryd.prog W 0 spare held k 34 [c2] = some y2 := g2
      have e3 : DataW.trod enc Tryd.prog W 0 spare held k 31 [c3] = some y3 := g3
      have e4 : DataW.trod enc Tryd.prog W 0 spare held k 9 [c4] = some y4 := g4
      have e5 : DataW.trod enc Tryd.prog W 0 spare held k 9 [c5] = some y5 := g5
      obtain ⟨k0, h0⟩ := opened_u8 Tryd.underlying5 _ _ _ _ _ e0
      obtain ⟨k1, h1, b1⟩ := opened_str Tryd.underlying9 _ _ _ _ _ e1
      obtain ⟨k2, t, h2, s2⟩ := opened_slice (E := elInt .i32) Tryd.underlying34 (by kernel_rfl) (by decide) (opened_i32 Tryd.underlying21) _ _ _ _ _ e2
      obtain ⟨k3, c, h3, s3⟩ := opened_slice (E := elU8) Tryd.underlying31 (by kernel_rfl) (by decide) (opened_u8 Tryd.underlying5) _ _ _ _ _ e3
      obtain ⟨k4, h4, b4⟩ := opened_str Tryd.underlying9 _ _ _ _ _ e4
      obtain ⟨k5, h5, b5⟩ := opened_str Tryd.underlying9 _ _ _ _ _ e5
      simp only [elU8, List.cons.injEq, and_true] at h0 h1 h2 h3 h4 h5
      subst h0; subst h1; subst h2; subst h3; subst h4; subst h5
      exact ⟨⟨k0, k1, k2, k3, k4, k5⟩, t, c, rfl, s2, s3, b1, b4, b5⟩

theorem lifted_write (os : Os) (started : os.Started) (H : Type) (enc : TypeId × Value → H) :
    ReturnsInHanded {} Tryd.checked os 5 .any (fun w args => (Rows.rulesWriteSpec.pre enc Tryd.prog Tryd.f5 Rows.rulesWriteRow.domain false w args ∧ laidMetH Tryd.prog Rows.rulesWriteRow.laid w) ∧ sizedMet enc Tryd.prog Tryd.f5 (OpenSpec.ofChange Rows.rulesWriteSpec) false w args)
      (Rows.rulesWriteSpec.post enc Tryd.prog Tryd.f5 false true false false) := by
  refine returnsInHanded_of_change_and (C := Tryd.checked) (X := fun w _ => laidMetH Tryd.prog Rows.rulesWriteRow.laid w) (fun _ _ _ hh h => h.of_heap hh) own started (by kernel_rfl) Tryd.func5
    (ChangeSpec.witness_shaped (enc := enc) (C := Tryd.checked) (os := os) (X := fun w _ => laidMetH Tryd.prog Rows.rulesWriteRow.laid w) false (World.laidAll Tryd.prog os Rows.rulesWriteRow.laid) #[.slice none 0 0] 8 (World.laidAll_os _ _ _)
      (World.shaped_of_ZipB (by kernel_rfl) (by kernel_rfl)) (by kernel_rfl) (by kernel_rfl) (by kernel_rfl)
      (by rw [MakeChecks.laidMetH_plain _ _ _ (by kernel_rfl)]; exact laidMet_laidAll _ (by kernel_rfl) (by kernel_rfl))) ?_
  intro W base args ds gs before hval0 hW hc _ hL _
  have hval : ∀ (j : Nat) t v, (Tryd.f5).params[j]? = some t → args[j]? = some v → Value.okWide Tryd.prog W .any base t v := hval0
  have hW' := hW
  obtain ⟨p, q, hA0, hV, rfl, _, _⟩ := hW
  have hA : DataW.TrodAll enc Tryd.prog W 0 (fun _ => true) true (Tryd.f5).params.toList args.toList ds p := hA0
  rw [Tryd.params5] at hA hval
  obtain ⟨v0, d0, rfl, rfl, h0⟩ := trodAll_one hA
  obtain ⟨a0, n0, c0, hv⟩ := okWide_slice Tryd.underlying23 (hval 0 23 v0 rfl rfl)
  obtain ⟨s, l, rfl, hI⟩ := Opened.slice (E := elRule) Tryd.underlying23 (by kernel_rfl) (by decide) (opened_rule enc W) (by rw [hv]; rfl) h0
  refine (writeLaw_spec s l W hI).mono fun e W' ⟨he, hk⟩ => ?_
  subst he
  exact ⟨_, rfl, law_post (tb := 4) laidOut (by kernel_rfl) rfl Tryd.underlying4 rfl hW' rfl hk⟩

theorem said_write : Rows.RulesWriteSaid :=
  OpenClaim.holds_of_wide 5 Tryd.f5 rfl rfl rfl rfl rfl rfl rfl ⟨rfl, rfl, rfl, rfl, rfl⟩ rfl rfl rfl rfl rfl (by kernel_rfl) Tryd.func5 (by kernel_rfl)
    (of_decide_eq_true (by kernel_rfl)) (by unfold Func.isWrapper; first | (rw [if_pos (by decide +kernel)]; kernel_rfl) | (rw [if_neg (by decide +kernel)]; exact ⟨rfl, rfl⟩))
    (fun os started H enc _ => lifted_write os started H enc)
theorem card_write : Rows.RulesWriteCardSaid :=
  Claim7.holds_tied_plain_at .later [] _ _ _ _ said_write (fun _ h => by cases h) (by kernel_rfl) (fun _ h => by cases h) rulesWrite_row_tie rfl ⟨rfl, rfl⟩ (by kernel_rfl) rfl
    (fun f fn hf hfn => by
      obtain rfl : f = 5 := Option.some.inj ((show Tryd.prog.funcNamed "tactile/tactilelaw23.RulesWrite" = some 5 by kernel_rfl).symm.trans hf) |>.symm
      obtain rfl : fn = Tryd.f5 := (Option.some.inj ((Tryd.func5).symm.trans hfn)).symm
      exact ⟨by kernel_rfl, fun j t ht => by
        rw [Tryd.params5] at ht
        have hm : t ∈ [23] := by simpa using Array.mem_of_getElem? ht
        have hall : ([23].all fun u => !Tryd.prog.wantsStandIn u) = true := by kernel_rfl
        exact (show Tryd.prog.wantsStandIn t = false by simpa using List.all_eq_true.1 hall t hm)⟩)
    (by kernel_rfl)
end Go.Proofs.YtcjdbmcklemkkaaDoor
