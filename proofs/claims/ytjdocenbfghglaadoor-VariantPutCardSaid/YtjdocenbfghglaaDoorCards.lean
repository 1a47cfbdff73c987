/-
  DERIVED. GIVEN WITH THE SEED: THE CARDS: each row of YtjdocenbfghglaaDoorRows.lean that lists a variable, with what it lists TIED to the program's text (the seventh form; the later family's looks); each row that meets fmt, with fmt's text TOLD by the authors' own Lean function (tested against real Go, not proved from fmt's source: count such statements apart). THE CARD IS WHAT COUNTS. Prove the row's statement (the work); the ties are given (YtjdocenbfghglaaDoorTie.lean); close each card by the builder's one call (the guide's Derived/Test/ToyasCard.lean, 'card_holds'). Laid BY PROGRAM, IN A SANDBOX (cutbox-door.mjs). By AI agents, Wed Nov 11 2026. No macro, syntax, notation, axiom, sorry.
-/
import Derived.Test.YtjdocenbfghglaaDoorRows
import GoSem.ClaimSeven
namespace Go.Proofs.YtjdocenbfghglaaDoor
namespace Rows

/-- THE TIED CARD OF 'cirruslaw02.VariantGets'. -/
def variantGetsCard : Claim7 := { stood := { row := variantGetsRow, standIns := [], harness := (true, "80c2a5b77fb368b4a326290667bb859634491bebb0aca14ecd42ced59bfa390a"), looks := false }, kinds := [], alts := [], laidByText := true, laidKinds := [.data, .data, .data, .data, .pinned], laidTests := true, laidLooks := .later }
def VariantGetsCardSaid : Prop := Claim7.holds Tryd.pinned (.plain (OpenSpec.ofChange variantGetsSpec)) variantGetsCard

/-- THE TIED CARD OF 'cirruslaw02.VariantPut'. -/
def variantPutCard : Claim7 := { stood := { row := variantPutRow, standIns := [], harness := (true, "80c2a5b77fb368b4a326290667bb859634491bebb0aca14ecd42ced59bfa390a"), looks := false }, kinds := [], alts := [], laidByText := true, laidKinds := [.data, .data, .data, .data, .pinned], laidTests := true, laidLooks := .later }
def VariantPutCardSaid : Prop := Claim7.holds Tryd.pinned (.plain (OpenSpec.ofChange variantPutSpec)) variantPutCard

/-- THE TIED CARD OF 'cirruslaw02.VariantRemoved'. -/
def variantRemovedCard : Claim7 := { stood := { row := variantRemovedRow, standIns := [], harness := (true, "80c2a5b77fb368b4a326290667bb859634491bebb0aca14ecd42ced59bfa390a"), looks := false }, kinds := [], alts := [], laidByText := true, laidKinds := [.data, .data, .data, .data, .pinned], laidTests := true, laidLooks := .later }
def VariantRemovedCardSaid : Prop := Claim7.holds Tryd.pinned (.plain (OpenSpec.ofChange variantRemovedSpec)) variantRemovedCard

/-- THE SECOND FORM's CARD OF 'cirruslaw02.VariantGets'. -/
def variantGetsUptoCard : Claim7 := { stood := { row := variantGetsUptoRow, standIns := [], harness := (true, "80c2a5b77fb368b4a326290667bb859634491bebb0aca14ecd42ced59bfa390a"), looks := false }, kinds := [], alts := [], laidByText := true, laidKinds := [.data, .data, .data, .data, .pinned], laidTests := true, laidLooks := .later }
def VariantGetsUptoCardSaid : Prop := Claim7.holds Tryd.pinned (.plain (OpenSpec.upto variantGetsSpec)) variantGetsUptoCard

/-- THE SECOND FORM's CARD OF 'cirruslaw02.VariantPut'. -/
def variantPutUptoCard : Claim7 := { stood := { row := variantPutUptoRow, standIns := [], harness := (true, "80c2a5b77fb368b4a326290667bb859634491bebb0aca14ecd42ced59bfa390a"), looks := false }, kinds := [], alts := [], laidByText := true, laidKinds := [.data, .data, .data, .data, .pinned], laidTests := true, laidLooks := .later }
def VariantPutUptoCardSaid : Prop := Claim7.holds Tryd.pinned (.plain (OpenSpec.upto variantPutSpec)) variantPutUptoCard

/-- THE SECOND FORM's CARD OF 'cirruslaw02.VariantRemoved'. -/
def variantRemovedUptoCard : Claim7 := { stood := { row := variantRemovedUptoRow, standIns := [], harness := (true, "80c2a5b77fb368b4a326290667bb859634491bebb0aca14ecd42ced59bfa390a"), looks := false }, kinds := [], alts := [], laidByText := true, laidKinds := [.data, .data, .data, .data, .pinned], laidTests := true, laidLooks := .later }
def VariantRemovedUptoCardSaid : Prop := Claim7.holds Tryd.pinned (.plain (OpenSpec.upto variantRemovedSpec)) variantRemovedUptoCard
end Rows
end Go.Proofs.YtjdocenbfghglaaDoor
