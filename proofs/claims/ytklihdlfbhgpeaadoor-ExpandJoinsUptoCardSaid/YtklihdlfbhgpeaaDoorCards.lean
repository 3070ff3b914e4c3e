/-
  DERIVED. GIVEN WITH THE SEED: THE CARDS: each row of YtklihdlfbhgpeaaDoorRows.lean that lists a variable, with what it lists TIED to the program's text (the seventh form; the later family's looks); each row that meets fmt, with fmt's text TOLD by the authors' own Lean function (tested against real Go, not proved from fmt's source: count such statements apart). THE CARD IS WHAT COUNTS. Prove the row's statement (the work); the ties are given (YtklihdlfbhgpeaaDoorTie.lean); close each card by the builder's one call (the guide's Derived/Test/ToyasCard.lean, 'card_holds'). Laid BY PROGRAM, IN A SANDBOX (cutbox-door.mjs). By AI agents, Wed Nov 11 2026. No macro, syntax, notation, axiom, sorry.
-/
import Derived.Test.YtklihdlfbhgpeaaDoorRows
import GoSem.ClaimSeven
namespace Go.Proofs.YtklihdlfbhgpeaaDoor
namespace Rows

/-- THE TIED CARD OF 'whisklaw15.ExpandJoins'. -/
def expandJoinsCard : Claim7 := { stood := { row := expandJoinsRow, standIns := [], harness := (true, "18271c640670d252ae8a1a637677553144544f7dc78adaff06081f2e670f019a"), looks := false }, kinds := [], alts := [], laidByText := true, laidKinds := [.data, .data, .data], laidTests := true, laidLooks := .later }
def ExpandJoinsCardSaid : Prop := Claim7.holds Tryd.pinned (.plain (OpenSpec.ofChange expandJoinsSpec)) expandJoinsCard

/-- THE TIED CARD OF 'whisklaw15.ExpandQuoted'. -/
def expandQuotedCard : Claim7 := { stood := { row := expandQuotedRow, standIns := [], harness := (true, "18271c640670d252ae8a1a637677553144544f7dc78adaff06081f2e670f019a"), looks := false }, kinds := [], alts := [], laidByText := true, laidKinds := [.data, .data, .data], laidTests := true, laidLooks := .later }
def ExpandQuotedCardSaid : Prop := Claim7.holds Tryd.pinned (.plain (OpenSpec.ofChange expandQuotedSpec)) expandQuotedCard

/-- THE TIED CARD OF 'whisklaw15.ExpandTrims'. -/
def expandTrimsCard : Claim7 := { stood := { row := expandTrimsRow, standIns := [], harness := (true, "18271c640670d252ae8a1a637677553144544f7dc78adaff06081f2e670f019a"), looks := false }, kinds := [], alts := [], laidByText := true, laidKinds := [.data, .data, .data], laidTests := true, laidLooks := .later }
def ExpandTrimsCardSaid : Prop := Claim7.holds Tryd.pinned (.plain (OpenSpec.ofChange expandTrimsSpec)) expandTrimsCard

/-- THE TIED CARD OF 'whisklaw15.ExpandKnown'. -/
def expandKnownCard : Claim7 := { stood := { row := expandKnownRow, standIns := [], harness := (true, "18271c640670d252ae8a1a637677553144544f7dc78adaff06081f2e670f019a"), looks := false }, kinds := [], alts := [], laidByText := true, laidKinds := [.data, .data, .data], laidTests := true, laidLooks := .later }
def ExpandKnownCardSaid : Prop := Claim7.holds Tryd.pinned (.plain (OpenSpec.ofChange expandKnownSpec)) expandKnownCard

/-- THE SECOND FORM's CARD OF 'whisklaw15.ExpandJoins'. -/
def expandJoinsUptoCard : Claim7 := { stood := { row := expandJoinsUptoRow, standIns := [], harness := (true, "18271c640670d252ae8a1a637677553144544f7dc78adaff06081f2e670f019a"), looks := false }, kinds := [], alts := [], laidByText := true, laidKinds := [.data, .data, .data], laidTests := true, laidLooks := .later }
def ExpandJoinsUptoCardSaid : Prop := Claim7.holds Tryd.pinned (.plain (OpenSpec.upto expandJoinsSpec)) expandJoinsUptoCard

/-- THE SECOND FORM's CARD OF 'whisklaw15.ExpandQuoted'. -/
def expandQuotedUptoCard : Claim7 := { stood := { row := expandQuotedUptoRow, standIns := [], harness := (true, "18271c640670d252ae8a1a637677553144544f7dc78adaff06081f2e670f019a"), looks := false }, kinds := [], alts := [], laidByText := true, laidKinds := [.data, .data, .data], laidTests := true, laidLooks := .later }
def ExpandQuotedUptoCardSaid : Prop := Claim7.holds Tryd.pinned (.plain (OpenSpec.upto expandQuotedSpec)) expandQuotedUptoCard

/-- THE SECOND FORM's CARD OF 'whisklaw15.ExpandTrims'. -/
def expandTrimsUptoCard : Claim7 := { stood := { row := expandTrimsUptoRow, standIns := [], harness := (true, "18271c640670d252ae8a1a637677553144544f7dc78adaff06081f2e670f019a"), looks := false }, kinds := [], alts := [], laidByText := true, laidKinds := [.data, .data, .data], laidTests := true, laidLooks := .later }
def ExpandTrimsUptoCardSaid : Prop := Claim7.holds Tryd.pinned (.plain (OpenSpec.upto expandTrimsSpec)) expandTrimsUptoCard

/-- THE SECOND FORM's CARD OF 'whisklaw15.ExpandKnown'. -/
def expandKnownUptoCard : Claim7 := { stood := { row := expandKnownUptoRow, standIns := [], harness := (true, "18271c640670d252ae8a1a637677553144544f7dc78adaff06081f2e670f019a"), looks := false }, kinds := [], alts := [], laidByText := true, laidKinds := [.data, .data, .data], laidTests := true, laidLooks := .later }
def ExpandKnownUptoCardSaid : Prop := Claim7.holds Tryd.pinned (.plain (OpenSpec.upto expandKnownSpec)) expandKnownUptoCard
end Rows
end Go.Proofs.YtklihdlfbhgpeaaDoor
