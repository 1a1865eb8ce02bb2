/-
  DERIVED. GIVEN WITH THE SEED: THE CARDS: each row of YtcjdbmcklemkkaaDoorRows.lean that lists a variable, with what it lists TIED to the program's text (the seventh form; the later family's looks); each row that meets fmt, with fmt's text TOLD by the authors' own Lean function (tested against real Go, not proved from fmt's source: count such statements apart). THE CARD IS WHAT COUNTS. Prove the row's statement (the work); the ties are given (YtcjdbmcklemkkaaDoorTie.lean); close each card by the builder's one call (the guide's Derived/Test/ToyasCard.lean, 'card_holds'). Laid BY PROGRAM, IN A SANDBOX (cutbox-door.mjs). By AI agents, Wed Nov 11 2026. No macro, syntax, notation, axiom, sorry.
-/
import Derived.Test.YtcjdbmcklemkkaaDoorRows
import GoSem.ClaimSeven
namespace Go.Proofs.YtcjdbmcklemkkaaDoor
namespace Rows

/-- THE TIED CARD OF 'tactilelaw23.RulesOne'. -/
def rulesOneCard : Claim7 := { stood := { row := rulesOneRow, standIns := [], harness := (true, "b5d0106f62751979492992bffdc11adae46ce4258e0eb016e6f57a53a1291af9"), looks := false }, kinds := [], alts := [], laidByText := true, laidKinds := [.data, .pinned], laidTests := true, laidLooks := .later }
def RulesOneCardSaid : Prop := Claim7.holds Tryd.pinned (.plain (OpenSpec.ofChange rulesOneSpec)) rulesOneCard

/-- THE TIED CARD OF 'tactilelaw23.RulesMany'. -/
def rulesManyCard : Claim7 := { stood := { row := rulesManyRow, standIns := [], harness := (true, "b5d0106f62751979492992bffdc11adae46ce4258e0eb016e6f57a53a1291af9"), looks := false }, kinds := [], alts := [], laidByText := true, laidKinds := [.data, .pinned], laidTests := true, laidLooks := .later }
def RulesManyCardSaid : Prop := Claim7.holds Tryd.pinned (.plain (OpenSpec.ofChange rulesManySpec)) rulesManyCard

/-- THE TIED CARD OF 'tactilelaw23.RulesWrite'. -/
def rulesWriteCard : Claim7 := { stood := { row := rulesWriteRow, standIns := [], harness := (true, "b5d0106f62751979492992bffdc11adae46ce4258e0eb016e6f57a53a1291af9"), looks := false }, kinds := [], alts := [], laidByText := true, laidKinds := [.data, .pinned], laidTests := true, laidLooks := .later }
def RulesWriteCardSaid : Prop := Claim7.holds Tryd.pinned (.plain (OpenSpec.ofChange rulesWriteSpec)) rulesWriteCard

/-- THE SECOND FORM's CARD OF 'tactilelaw23.RulesOne'. -/
def rulesOneUptoCard : Claim7 := { stood := { row := rulesOneUptoRow, standIns := [], harness := (true, "b5d0106f62751979492992bffdc11adae46ce4258e0eb016e6f57a53a1291af9"), looks := false }, kinds := [], alts := [], laidByText := true, laidKinds := [.data, .pinned], laidTests := true, laidLooks := .later }
def RulesOneUptoCardSaid : Prop := Claim7.holds Tryd.pinned (.plain (OpenSpec.upto rulesOneSpec)) rulesOneUptoCard

/-- THE SECOND FORM's CARD OF 'tactilelaw23.RulesMany'. -/
def rulesManyUptoCard : Claim7 := { stood := { row := rulesManyUptoRow, standIns := [], harness := (true, "b5d0106f62751979492992bffdc11adae46ce4258e0eb016e6f57a53a1291af9"), looks := false }, kinds := [], alts := [], laidByText := true, laidKinds := [.data, .pinned], laidTests := true, laidLooks := .later }
def RulesManyUptoCardSaid : Prop := Claim7.holds Tryd.pinned (.plain (OpenSpec.upto rulesManySpec)) rulesManyUptoCard

/-- THE SECOND FORM's CARD OF 'tactilelaw23.RulesWrite'. -/
def rulesWriteUptoCard : Claim7 := { stood := { row := rulesWriteUptoRow, standIns := [], harness := (true, "b5d0106f62751979492992bffdc11adae46ce4258e0eb016e6f57a53a1291af9"), looks := false }, kinds := [], alts := [], laidByText := true, laidKinds := [.data, .pinned], laidTests := true, laidLooks := .later }
def RulesWriteUptoCardSaid : Prop := Claim7.holds Tryd.pinned (.plain (OpenSpec.upto rulesWriteSpec)) rulesWriteUptoCard
end Rows
end Go.Proofs.YtcjdbmcklemkkaaDoor
