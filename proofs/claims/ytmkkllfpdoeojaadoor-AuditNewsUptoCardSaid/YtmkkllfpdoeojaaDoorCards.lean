/-
  DERIVED. GIVEN WITH THE SEED: THE CARDS: each row of YtmkkllfpdoeojaaDoorRows.lean that lists a variable, with what it lists TIED to the program's text (the seventh form; the later family's looks); each row that meets fmt, with fmt's text TOLD by the authors' own Lean function (tested against real Go, not proved from fmt's source: count such statements apart). THE CARD IS WHAT COUNTS. Prove the row's statement (the work); the ties are given (YtmkkllfpdoeojaaDoorTie.lean); close each card by the builder's one call (the guide's Derived/Test/ToyasCard.lean, 'card_holds'). Laid BY PROGRAM, IN A SANDBOX (cutbox-door.mjs). By AI agents, Wed Nov 11 2026. No macro, syntax, notation, axiom, sorry.
-/
import Derived.Test.YtmkkllfpdoeojaaDoorRows
import GoSem.ClaimSeven
namespace Go.Proofs.YtmkkllfpdoeojaaDoor
namespace Rows

/-- THE TIED CARD OF 'granarylaw19.AuditTells'. -/
def auditTellsCard : Claim7 := { stood := { row := auditTellsRow, standIns := [], harness := (true, "53119ba3c89baaea62476034b4e8852acee65e3736e1debeed5a52e3a719577d"), looks := false }, kinds := [], alts := [], laidByText := true, laidKinds := [.data], laidTests := true, laidLooks := .later }
def AuditTellsCardSaid : Prop := Claim7.holds Tryd.pinned (.plain (OpenSpec.ofChange auditTellsSpec)) auditTellsCard

/-- THE TIED CARD OF 'granarylaw19.AuditNews'. -/
def auditNewsCard : Claim7 := { stood := { row := auditNewsRow, standIns := [], harness := (true, "53119ba3c89baaea62476034b4e8852acee65e3736e1debeed5a52e3a719577d"), looks := false }, kinds := [], alts := [], laidByText := true, laidKinds := [.data], laidTests := true, laidLooks := .later }
def AuditNewsCardSaid : Prop := Claim7.holds Tryd.pinned (.plain (OpenSpec.ofChange auditNewsSpec)) auditNewsCard

/-- THE TIED CARD OF 'granarylaw19.AuditEnds'. -/
def auditEndsCard : Claim7 := { stood := { row := auditEndsRow, standIns := [], harness := (true, "53119ba3c89baaea62476034b4e8852acee65e3736e1debeed5a52e3a719577d"), looks := false }, kinds := [], alts := [], laidByText := true, laidKinds := [.data], laidTests := true, laidLooks := .later }
def AuditEndsCardSaid : Prop := Claim7.holds Tryd.pinned (.plain (OpenSpec.ofChange auditEndsSpec)) auditEndsCard

/-- THE TIED CARD OF 'granarylaw6.RingHolds'. -/
def ringHoldsCard : Claim7 := { stood := { row := ringHoldsRow, standIns := [], harness := (true, "53119ba3c89baaea62476034b4e8852acee65e3736e1debeed5a52e3a719577d"), looks := false }, kinds := [], alts := [], laidByText := true, laidKinds := [.data, .data, .data, .data], laidTests := true, laidLooks := .later }
def RingHoldsCardSaid : Prop := Claim7.holds Tryd.pinned (.plain (OpenSpec.ofChange ringHoldsSpec)) ringHoldsCard

/-- THE SECOND FORM's CARD OF 'granarylaw19.AuditTells'. -/
def auditTellsUptoCard : Claim7 := { stood := { row := auditTellsUptoRow, standIns := [], harness := (true, "53119ba3c89baaea62476034b4e8852acee65e3736e1debeed5a52e3a719577d"), looks := false }, kinds := [], alts := [], laidByText := true, laidKinds := [.data], laidTests := true, laidLooks := .later }
def AuditTellsUptoCardSaid : Prop := Claim7.holds Tryd.pinned (.plain (OpenSpec.upto auditTellsSpec)) auditTellsUptoCard

/-- THE SECOND FORM's CARD OF 'granarylaw19.AuditNews'. -/
def auditNewsUptoCard : Claim7 := { stood := { row := auditNewsUptoRow, standIns := [], harness := (true, "53119ba3c89baaea62476034b4e8852acee65e3736e1debeed5a52e3a719577d"), looks := false }, kinds := [], alts := [], laidByText := true, laidKinds := [.data], laidTests := true, laidLooks := .later }
def AuditNewsUptoCardSaid : Prop := Claim7.holds Tryd.pinned (.plain (OpenSpec.upto auditNewsSpec)) auditNewsUptoCard

/-- THE SECOND FORM's CARD OF 'granarylaw19.AuditEnds'. -/
def auditEndsUptoCard : Claim7 := { stood := { row := auditEndsUptoRow, standIns := [], harness := (true, "53119ba3c89baaea62476034b4e8852acee65e3736e1debeed5a52e3a719577d"), looks := false }, kinds := [], alts := [], laidByText := true, laidKinds := [.data], laidTests := true, laidLooks := .later }
def AuditEndsUptoCardSaid : Prop := Claim7.holds Tryd.pinned (.plain (OpenSpec.upto auditEndsSpec)) auditEndsUptoCard

/-- THE SECOND FORM's CARD OF 'granarylaw6.RingHolds'. -/
def ringHoldsUptoCard : Claim7 := { stood := { row := ringHoldsUptoRow, standIns := [], harness := (true, "53119ba3c89baaea62476034b4e8852acee65e3736e1debeed5a52e3a719577d"), looks := false }, kinds := [], alts := [], laidByText := true, laidKinds := [.data, .data, .data, .data], laidTests := true, laidLooks := .later }
def RingHoldsUptoCardSaid : Prop := Claim7.holds Tryd.pinned (.plain (OpenSpec.upto ringHoldsSpec)) ringHoldsUptoCard
end Rows
end Go.Proofs.YtmkkllfpdoeojaaDoor
