/-
  DERIVED. GIVEN WITH THE SEED: THE CARDS: each row of YtigaopfhjimpmaaDoorRows.lean that lists a variable, with what it lists TIED to the program's text (the seventh form; the later family's looks); each row that meets fmt, with fmt's text TOLD by the authors' own Lean function (tested against real Go, not proved from fmt's source: count such statements apart). THE CARD IS WHAT COUNTS. Prove the row's statement (the work); the ties are given (YtigaopfhjimpmaaDoorTie.lean); close each card by the builder's one call (the guide's Derived/Test/ToyasCard.lean, 'card_holds'). Laid BY PROGRAM, IN A SANDBOX (cutbox-door.mjs). By AI agents, Wed Nov 11 2026. No macro, syntax, notation, axiom, sorry.
-/
import Derived.Test.YtigaopfhjimpmaaDoorRows
import GoSem.ClaimSeven
namespace Go.Proofs.YtigaopfhjimpmaaDoor
namespace Rows

/-- THE TIED CARD OF 'laws.FnExactMatchAll'. -/
def fnExactMatchAllCard : Claim7 := { stood := { row := fnExactMatchAllRow, standIns := [], harness := (true, "3873d5562b328ada84ffcf9d5be7ab54bfa7e8dcd9045818af521b6cbdf19d05"), looks := false }, kinds := [], alts := [], laidByText := true, laidKinds := [.data, .data], laidTests := true, laidLooks := .later }
def FnExactMatchAllCardSaid : Prop := Claim7.holds Tryd.pinned (.plain (OpenSpec.ofChange fnExactMatchAllSpec)) fnExactMatchAllCard

/-- THE TIED CARD OF 'laws.FnJoinedNets'. -/
def fnJoinedNetsCard : Claim7 := { stood := { row := fnJoinedNetsRow, standIns := [], harness := (true, "3873d5562b328ada84ffcf9d5be7ab54bfa7e8dcd9045818af521b6cbdf19d05"), looks := false }, kinds := [], alts := [], laidByText := true, laidKinds := [.data, .data], laidTests := true, laidLooks := .later }
def FnJoinedNetsCardSaid : Prop := Claim7.holds Tryd.pinned (.plain (OpenSpec.ofChange fnJoinedNetsSpec)) fnJoinedNetsCard

/-- THE SECOND FORM's CARD OF 'laws.FnExactMatchAll'. -/
def fnExactMatchAllUptoCard : Claim7 := { stood := { row := fnExactMatchAllUptoRow, standIns := [], harness := (true, "3873d5562b328ada84ffcf9d5be7ab54bfa7e8dcd9045818af521b6cbdf19d05"), looks := false }, kinds := [], alts := [], laidByText := true, laidKinds := [.data, .data], laidTests := true, laidLooks := .later }
def FnExactMatchAllUptoCardSaid : Prop := Claim7.holds Tryd.pinned (.plain (OpenSpec.upto fnExactMatchAllSpec)) fnExactMatchAllUptoCard

/-- THE SECOND FORM's CARD OF 'laws.FnJoinedNets'. -/
def fnJoinedNetsUptoCard : Claim7 := { stood := { row := fnJoinedNetsUptoRow, standIns := [], harness := (true, "3873d5562b328ada84ffcf9d5be7ab54bfa7e8dcd9045818af521b6cbdf19d05"), looks := false }, kinds := [], alts := [], laidByText := true, laidKinds := [.data, .data], laidTests := true, laidLooks := .later }
def FnJoinedNetsUptoCardSaid : Prop := Claim7.holds Tryd.pinned (.plain (OpenSpec.upto fnJoinedNetsSpec)) fnJoinedNetsUptoCard
end Rows
end Go.Proofs.YtigaopfhjimpmaaDoor
