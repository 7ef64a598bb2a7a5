/-
  DERIVED. GIVEN WITH THE SEED: THE CARDS: each row of YteinffefhcpcmaaGreatDoorRows.lean that lists a variable, with what it lists TIED to the program's text (the seventh form; the later family's looks); each row that meets fmt, with fmt's text TOLD by the authors' own Lean function (tested against real Go, not proved from fmt's source: count such statements apart). THE CARD IS WHAT COUNTS. Prove the row's statement (the work); the ties are given (YteinffefhcpcmaaGreatDoorTie.lean); close each card by the builder's one call (the guide's Derived/Test/ToyasCard.lean, 'card_holds'). Laid BY PROGRAM, IN A SANDBOX (cutbox-door.mjs). By AI agents, Wed Nov 11 2026. No macro, syntax, notation, axiom, sorry.
-/
import Derived.Test.YteinffefhcpcmaaGreatDoorRows
import GoSem.ClaimSeven
namespace Go.Proofs.YteinffefhcpcmaaGreatDoor
namespace Rows

/-- THE TIED CARD OF 'varvelaw24.EngineMany'. -/
def engineManyCard : Claim7 := { stood := { row := engineManyRow, standIns := [], harness := (true, "0685e34ccfbcbdb13464fd707e35b2183517f58c43d9d55e5ca232cbf6be016a"), looks := true }, kinds := [], alts := [], laidByText := true, laidKinds := [.data, .data, .data], laidTests := true, laidLooks := .later }
def EngineManyCardSaid : Prop := Claim7.holds Tryz.pinned (.plain (OpenSpec.ofChange engineManySpec)) engineManyCard

/-- THE TIED CARD OF 'varvelaw24.EngineTicks'. -/
def engineTicksCard : Claim7 := { stood := { row := engineTicksRow, standIns := [], harness := (true, "0685e34ccfbcbdb13464fd707e35b2183517f58c43d9d55e5ca232cbf6be016a"), looks := true }, kinds := [], alts := [], laidByText := true, laidKinds := [.data, .data, .data], laidTests := true, laidLooks := .later }
def EngineTicksCardSaid : Prop := Claim7.holds Tryz.pinned (.plain (OpenSpec.ofChange engineTicksSpec)) engineTicksCard

/-- THE TIED CARD OF 'varvelaw24.EngineDeletes'. -/
def engineDeletesCard : Claim7 := { stood := { row := engineDeletesRow, standIns := [], harness := (true, "0685e34ccfbcbdb13464fd707e35b2183517f58c43d9d55e5ca232cbf6be016a"), looks := true }, kinds := [], alts := [], laidByText := true, laidKinds := [.data, .data, .data], laidTests := true, laidLooks := .later }
def EngineDeletesCardSaid : Prop := Claim7.holds Tryz.pinned (.plain (OpenSpec.ofChange engineDeletesSpec)) engineDeletesCard

/-- THE SECOND FORM's CARD OF 'varvelaw24.EngineMany'. -/
def engineManyUptoCard : Claim7 := { stood := { row := engineManyUptoRow, standIns := [], harness := (true, "0685e34ccfbcbdb13464fd707e35b2183517f58c43d9d55e5ca232cbf6be016a"), looks := true }, kinds := [], alts := [], laidByText := true, laidKinds := [.data, .data, .data], laidTests := true, laidLooks := .later }
def EngineManyUptoCardSaid : Prop := Claim7.holds Tryz.pinned (.plain (OpenSpec.upto engineManySpec)) engineManyUptoCard

/-- THE SECOND FORM's CARD OF 'varvelaw24.EngineTicks'. -/
def engineTicksUptoCard : Claim7 := { stood := { row := engineTicksUptoRow, standIns := [], harness := (true, "0685e34ccfbcbdb13464fd707e35b2183517f58c43d9d55e5ca232cbf6be016a"), looks := true }, kinds := [], alts := [], laidByText := true, laidKinds := [.data, .data, .data], laidTests := true, laidLooks := .later }
def EngineTicksUptoCardSaid : Prop := Claim7.holds Tryz.pinned (.plain (OpenSpec.upto engineTicksSpec)) engineTicksUptoCard

/-- THE SECOND FORM's CARD OF 'varvelaw24.EngineDeletes'. -/
def engineDeletesUptoCard : Claim7 := { stood := { row := engineDeletesUptoRow, standIns := [], harness := (true, "0685e34ccfbcbdb13464fd707e35b2183517f58c43d9d55e5ca232cbf6be016a"), looks := true }, kinds := [], alts := [], laidByText := true, laidKinds := [.data, .data, .data], laidTests := true, laidLooks := .later }
def EngineDeletesUptoCardSaid : Prop := Claim7.holds Tryz.pinned (.plain (OpenSpec.upto engineDeletesSpec)) engineDeletesUptoCard
end Rows
end Go.Proofs.YteinffefhcpcmaaGreatDoor
