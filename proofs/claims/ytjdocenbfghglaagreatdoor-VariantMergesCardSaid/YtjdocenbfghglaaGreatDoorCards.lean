/-
  DERIVED. GIVEN WITH THE SEED: THE CARDS: each row of YtjdocenbfghglaaGreatDoorRows.lean that lists a variable, with what it lists TIED to the program's text (the seventh form; the later family's looks); each row that meets fmt, with fmt's text TOLD by the authors' own Lean function (tested against real Go, not proved from fmt's source: count such statements apart). THE CARD IS WHAT COUNTS. Prove the row's statement (the work); the ties are given (YtjdocenbfghglaaGreatDoorTie.lean); close each card by the builder's one call (the guide's Derived/Test/ToyasCard.lean, 'card_holds'). Laid BY PROGRAM, IN A SANDBOX (cutbox-door.mjs). By AI agents, Wed Nov 11 2026. No macro, syntax, notation, axiom, sorry.
-/
import Derived.Test.YtjdocenbfghglaaGreatDoorRows
import GoSem.ClaimSeven
namespace Go.Proofs.YtjdocenbfghglaaGreatDoor
namespace Rows

/-- THE TIED CARD OF 'cirruslaw02.VariantPuts'. -/
def variantPutsCard : Claim7 := { stood := { row := variantPutsRow, standIns := [], harness := (true, "16264ea00c8af3ba42ee8f859900600ad109eafa709ca9683cd61a971b8269e1"), looks := true }, kinds := [], alts := [], laidByText := true, laidKinds := [.data, .data, .data, .data, .pinned], laidTests := true, laidLooks := .later }
def VariantPutsCardSaid : Prop := Claim7.holds Tryz.pinned (.plain (OpenSpec.ofChange variantPutsSpec)) variantPutsCard

/-- THE TIED CARD OF 'cirruslaw02.VariantLeaves'. -/
def variantLeavesCard : Claim7 := { stood := { row := variantLeavesRow, standIns := [], harness := (true, "16264ea00c8af3ba42ee8f859900600ad109eafa709ca9683cd61a971b8269e1"), looks := true }, kinds := [], alts := [], laidByText := true, laidKinds := [.data, .data, .data, .data, .pinned], laidTests := true, laidLooks := .later }
def VariantLeavesCardSaid : Prop := Claim7.holds Tryz.pinned (.plain (OpenSpec.ofChange variantLeavesSpec)) variantLeavesCard

/-- THE TIED CARD OF 'cirruslaw02.VariantBuilds'. -/
def variantBuildsCard : Claim7 := { stood := { row := variantBuildsRow, standIns := [], harness := (true, "16264ea00c8af3ba42ee8f859900600ad109eafa709ca9683cd61a971b8269e1"), looks := true }, kinds := [], alts := [], laidByText := true, laidKinds := [.data, .data, .data, .data, .pinned], laidTests := true, laidLooks := .later }
def VariantBuildsCardSaid : Prop := Claim7.holds Tryz.pinned (.plain (OpenSpec.ofChange variantBuildsSpec)) variantBuildsCard

/-- THE TIED CARD OF 'cirruslaw02.VariantBuilt'. -/
def variantBuiltCard : Claim7 := { stood := { row := variantBuiltRow, standIns := [], harness := (true, "16264ea00c8af3ba42ee8f859900600ad109eafa709ca9683cd61a971b8269e1"), looks := true }, kinds := [], alts := [], laidByText := true, laidKinds := [.data, .data, .data, .data, .pinned], laidTests := true, laidLooks := .later }
def VariantBuiltCardSaid : Prop := Claim7.holds Tryz.pinned (.plain (OpenSpec.ofChange variantBuiltSpec)) variantBuiltCard

/-- THE TIED CARD OF 'cirruslaw02.VariantMerges'. -/
def variantMergesCard : Claim7 := { stood := { row := variantMergesRow, standIns := [], harness := (true, "16264ea00c8af3ba42ee8f859900600ad109eafa709ca9683cd61a971b8269e1"), looks := true }, kinds := [], alts := [], laidByText := true, laidKinds := [.data, .data, .data, .data, .pinned], laidTests := true, laidLooks := .later }
def VariantMergesCardSaid : Prop := Claim7.holds Tryz.pinned (.plain (OpenSpec.ofChange variantMergesSpec)) variantMergesCard

/-- THE TIED CARD OF 'cirruslaw02.VariantPatched'. -/
def variantPatchedCard : Claim7 := { stood := { row := variantPatchedRow, standIns := [], harness := (true, "16264ea00c8af3ba42ee8f859900600ad109eafa709ca9683cd61a971b8269e1"), looks := true }, kinds := [], alts := [], laidByText := true, laidKinds := [.data, .data, .data, .data, .pinned], laidTests := true, laidLooks := .later }
def VariantPatchedCardSaid : Prop := Claim7.holds Tryz.pinned (.plain (OpenSpec.ofChange variantPatchedSpec)) variantPatchedCard

/-- THE TIED CARD OF 'cirruslaw02.VariantPaths'. -/
def variantPathsCard : Claim7 := { stood := { row := variantPathsRow, standIns := [], harness := (true, "16264ea00c8af3ba42ee8f859900600ad109eafa709ca9683cd61a971b8269e1"), looks := true }, kinds := [], alts := [], laidByText := true, laidKinds := [.data, .data, .data, .data, .sentinel, .sentinel, .pinned], laidTests := true, laidLooks := .later }
def VariantPathsCardSaid : Prop := Claim7.holds Tryz.pinned (.plain (OpenSpec.ofChange variantPathsSpec)) variantPathsCard

/-- THE TIED CARD OF 'cirruslaw02.VariantBack'. -/
def variantBackCard : Claim7 := { stood := { row := variantBackRow, standIns := [], harness := (true, "16264ea00c8af3ba42ee8f859900600ad109eafa709ca9683cd61a971b8269e1"), looks := true }, kinds := [], alts := [], laidByText := true, laidKinds := [.data, .data, .data, .data, .sentinel, .sentinel, .pinned], laidTests := true, laidLooks := .later }
def VariantBackCardSaid : Prop := Claim7.holds Tryz.pinned (.plain (OpenSpec.ofChange variantBackSpec)) variantBackCard

/-- THE SECOND FORM's CARD OF 'cirruslaw02.VariantPuts'. -/
def variantPutsUptoCard : Claim7 := { stood := { row := variantPutsUptoRow, standIns := [], harness := (true, "16264ea00c8af3ba42ee8f859900600ad109eafa709ca9683cd61a971b8269e1"), looks := true }, kinds := [], alts := [], laidByText := true, laidKinds := [.data, .data, .data, .data, .pinned], laidTests := true, laidLooks := .later }
def VariantPutsUptoCardSaid : Prop := Claim7.holds Tryz.pinned (.plain (OpenSpec.upto variantPutsSpec)) variantPutsUptoCard

/-- THE SECOND FORM's CARD OF 'cirruslaw02.VariantLeaves'. -/
def variantLeavesUptoCard : Claim7 := { stood := { row := variantLeavesUptoRow, standIns := [], harness := (true, "16264ea00c8af3ba42ee8f859900600ad109eafa709ca9683cd61a971b8269e1"), looks := true }, kinds := [], alts := [], laidByText := true, laidKinds := [.data, .data, .data, .data, .pinned], laidTests := true, laidLooks := .later }
def VariantLeavesUptoCardSaid : Prop := Claim7.holds Tryz.pinned (.plain (OpenSpec.upto variantLeavesSpec)) variantLeavesUptoCard

/-- THE SECOND FORM's CARD OF 'cirruslaw02.VariantBuilds'. -/
def variantBuildsUptoCard : Claim7 := { stood := { row := variantBuildsUptoRow, standIns := [], harness := (true, "16264ea00c8af3ba42ee8f859900600ad109eafa709ca9683cd61a971b8269e1"), looks := true }, kinds := [], alts := [], laidByText := true, laidKinds := [.data, .data, .data, .data, .pinned], laidTests := true, laidLooks := .later }
def VariantBuildsUptoCardSaid : Prop := Claim7.holds Tryz.pinned (.plain (OpenSpec.upto variantBuildsSpec)) variantBuildsUptoCard

/-- THE SECOND FORM's CARD OF 'cirruslaw02.VariantBuilt'. -/
def variantBuiltUptoCard : Claim7 := { stood := { row := variantBuiltUptoRow, standIns := [], harness := (true, "16264ea00c8af3ba42ee8f859900600ad109eafa709ca9683cd61a971b8269e1"), looks := true }, kinds := [], alts := [], laidByText := true, laidKinds := [.data, .data, .data, .data, .pinned], laidTests := true, laidLooks := .later }
def VariantBuiltUptoCardSaid : Prop := Claim7.holds Tryz.pinned (.plain (OpenSpec.upto variantBuiltSpec)) variantBuiltUptoCard

/-- THE SECOND FORM's CARD OF 'cirruslaw02.VariantMerges'. -/
def variantMergesUptoCard : Claim7 := { stood := { row := variantMergesUptoRow, standIns := [], harness := (true, "16264ea00c8af3ba42ee8f859900600ad109eafa709ca9683cd61a971b8269e1"), looks := true }, kinds := [], alts := [], laidByText := true, laidKinds := [.data, .data, .data, .data, .pinned], laidTests := true, laidLooks := .later }
def VariantMergesUptoCardSaid : Prop := Claim7.holds Tryz.pinned (.plain (OpenSpec.upto variantMergesSpec)) variantMergesUptoCard

/-- THE SECOND FORM's CARD OF 'cirruslaw02.VariantPatched'. -/
def variantPatchedUptoCard : Claim7 := { stood := { row := variantPatchedUptoRow, standIns := [], harness := (true, "16264ea00c8af3ba42ee8f859900600ad109eafa709ca9683cd61a971b8269e1"), looks := true }, kinds := [], alts := [], laidByText := true, laidKinds := [.data, .data, .data, .data, .pinned], laidTests := true, laidLooks := .later }
def VariantPatchedUptoCardSaid : Prop := Claim7.holds Tryz.pinned (.plain (OpenSpec.upto variantPatchedSpec)) variantPatchedUptoCard

/-- THE SECOND FORM's CARD OF 'cirruslaw02.VariantPaths'. -/
def variantPathsUptoCard : Claim7 := { stood := { row := variantPathsUptoRow, standIns := [], harness := (true, "16264ea00c8af3ba42ee8f859900600ad109eafa709ca9683cd61a971b8269e1"), looks := true }, kinds := [], alts := [], laidByText := true, laidKinds := [.data, .data, .data, .data, .sentinel, .sentinel, .pinned], laidTests := true, laidLooks := .later }
def VariantPathsUptoCardSaid : Prop := Claim7.holds Tryz.pinned (.plain (OpenSpec.upto variantPathsSpec)) variantPathsUptoCard

/-- THE SECOND FORM's CARD OF 'cirruslaw02.VariantBack'. -/
def variantBackUptoCard : Claim7 := { stood := { row := variantBackUptoRow, standIns := [], harness := (true, "16264ea00c8af3ba42ee8f859900600ad109eafa709ca9683cd61a971b8269e1"), looks := true }, kinds := [], alts := [], laidByText := true, laidKinds := [.data, .data, .data, .data, .sentinel, .sentinel, .pinned], laidTests := true, laidLooks := .later }
def VariantBackUptoCardSaid : Prop := Claim7.holds Tryz.pinned (.plain (OpenSpec.upto variantBackSpec)) variantBackUptoCard
end Rows
end Go.Proofs.YtjdocenbfghglaaGreatDoor
