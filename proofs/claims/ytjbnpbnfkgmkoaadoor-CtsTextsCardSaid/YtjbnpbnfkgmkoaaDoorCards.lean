/-
  DERIVED. GIVEN WITH THE SEED: THE CARDS: each row of YtjbnpbnfkgmkoaaDoorRows.lean that lists a variable, with what it lists TIED to the program's text (the seventh form; the later family's looks); each row that meets fmt, with fmt's text TOLD by the authors' own Lean function (tested against real Go, not proved from fmt's source: count such statements apart). THE CARD IS WHAT COUNTS. Prove the row's statement (the work); the ties are given (YtjbnpbnfkgmkoaaDoorTie.lean); close each card by the builder's one call (the guide's Derived/Test/ToyasCard.lean, 'card_holds'). Laid BY PROGRAM, IN A SANDBOX (cutbox-door.mjs). By AI agents, Wed Nov 11 2026. No macro, syntax, notation, axiom, sorry.
-/
import Derived.Test.YtjbnpbnfkgmkoaaDoorRows
import GoSem.ClaimSeven
namespace Go.Proofs.YtjbnpbnfkgmkoaaDoor
namespace Rows

/-- THE TIED CARD OF 'watchwordlaw04.ShaSums'. -/
def shaSumsCard : Claim7 := { stood := { row := shaSumsRow, standIns := [], harness := (true, "16ce78daa0961ec664670db8e2f1363ee5fd5dd4ac313eb7bdf8da11aab23067"), looks := false }, kinds := [], alts := [], laidByText := true, laidKinds := [.data, .data], laidTests := true, laidLooks := .later }
def ShaSumsCardSaid : Prop := Claim7.holds Tryd.pinned (.plain (OpenSpec.ofChange shaSumsSpec)) shaSumsCard

/-- THE TIED CARD OF 'watchwordlaw04.ShaBlocks'. -/
def shaBlocksCard : Claim7 := { stood := { row := shaBlocksRow, standIns := [], harness := (true, "16ce78daa0961ec664670db8e2f1363ee5fd5dd4ac313eb7bdf8da11aab23067"), looks := false }, kinds := [], alts := [], laidByText := true, laidKinds := [.data], laidTests := true, laidLooks := .later }
def ShaBlocksCardSaid : Prop := Claim7.holds Tryd.pinned (.plain (OpenSpec.ofChange shaBlocksSpec)) shaBlocksCard

/-- THE TIED CARD OF 'watchwordlaw06.AesSubstitutes'. -/
def aesSubstitutesCard : Claim7 := { stood := { row := aesSubstitutesRow, standIns := [], harness := (true, "16ce78daa0961ec664670db8e2f1363ee5fd5dd4ac313eb7bdf8da11aab23067"), looks := false }, kinds := [], alts := [], laidByText := true, laidKinds := [.data], laidTests := true, laidLooks := .later }
def AesSubstitutesCardSaid : Prop := Claim7.holds Tryd.pinned (.plain (OpenSpec.ofChange aesSubstitutesSpec)) aesSubstitutesCard

/-- THE TIED CARD OF 'watchwordlaw06.AesKeys'. -/
def aesKeysCard : Claim7 := { stood := { row := aesKeysRow, standIns := [], harness := (true, "16ce78daa0961ec664670db8e2f1363ee5fd5dd4ac313eb7bdf8da11aab23067"), looks := false }, kinds := [], alts := [], laidByText := true, laidKinds := [.data], laidTests := true, laidLooks := .later }
def AesKeysCardSaid : Prop := Claim7.holds Tryd.pinned (.plain (OpenSpec.ofChange aesKeysSpec)) aesKeysCard

/-- THE TIED CARD OF 'watchwordlaw04.ShaDivides'. -/
def shaDividesCard : Claim7 := { stood := { row := shaDividesRow, standIns := [], harness := (true, "16ce78daa0961ec664670db8e2f1363ee5fd5dd4ac313eb7bdf8da11aab23067"), looks := false }, kinds := [], alts := [], laidByText := true, laidKinds := [.data], laidTests := true, laidLooks := .later }
def ShaDividesCardSaid : Prop := Claim7.holds Tryd.pinned (.plain (OpenSpec.ofChange shaDividesSpec)) shaDividesCard

/-- THE TIED CARD OF 'watchwordlaw04.ShaWrites'. -/
def shaWritesCard : Claim7 := { stood := { row := shaWritesRow, standIns := [], harness := (true, "16ce78daa0961ec664670db8e2f1363ee5fd5dd4ac313eb7bdf8da11aab23067"), looks := false }, kinds := [], alts := [], laidByText := true, laidKinds := [.data, .data], laidTests := true, laidLooks := .later }
def ShaWritesCardSaid : Prop := Claim7.holds Tryd.pinned (.plain (OpenSpec.ofChange shaWritesSpec)) shaWritesCard

/-- THE TIED CARD OF 'watchwordlaw04.ShaNone'. -/
def shaNoneCard : Claim7 := { stood := { row := shaNoneRow, standIns := [], harness := (true, "16ce78daa0961ec664670db8e2f1363ee5fd5dd4ac313eb7bdf8da11aab23067"), looks := false }, kinds := [], alts := [], laidByText := true, laidKinds := [.data, .data], laidTests := true, laidLooks := .later }
def ShaNoneCardSaid : Prop := Claim7.holds Tryd.pinned (.plain (OpenSpec.ofChange shaNoneSpec)) shaNoneCard

/-- THE TIED CARD OF 'watchwordlaw06.AesBlocks'. -/
def aesBlocksCard : Claim7 := { stood := { row := aesBlocksRow, standIns := [], harness := (true, "16ce78daa0961ec664670db8e2f1363ee5fd5dd4ac313eb7bdf8da11aab23067"), looks := false }, kinds := [], alts := [], laidByText := true, laidKinds := [.data], laidTests := true, laidLooks := .later }
def AesBlocksCardSaid : Prop := Claim7.holds Tryd.pinned (.plain (OpenSpec.ofChange aesBlocksSpec)) aesBlocksCard

/-- THE TIED CARD OF 'watchwordlaw07.CtsTexts'. -/
def ctsTextsCard : Claim7 := { stood := { row := ctsTextsRow, standIns := [], harness := (true, "16ce78daa0961ec664670db8e2f1363ee5fd5dd4ac313eb7bdf8da11aab23067"), looks := false }, kinds := [], alts := [], laidByText := true, laidKinds := [.data], laidTests := true, laidLooks := .later }
def CtsTextsCardSaid : Prop := Claim7.holds Tryd.pinned (.plain (OpenSpec.ofChange ctsTextsSpec)) ctsTextsCard

/-- THE SECOND FORM's CARD OF 'watchwordlaw04.ShaSums'. -/
def shaSumsUptoCard : Claim7 := { stood := { row := shaSumsUptoRow, standIns := [], harness := (true, "16ce78daa0961ec664670db8e2f1363ee5fd5dd4ac313eb7bdf8da11aab23067"), looks := false }, kinds := [], alts := [], laidByText := true, laidKinds := [.data, .data], laidTests := true, laidLooks := .later }
def ShaSumsUptoCardSaid : Prop := Claim7.holds Tryd.pinned (.plain (OpenSpec.upto shaSumsSpec)) shaSumsUptoCard

/-- THE SECOND FORM's CARD OF 'watchwordlaw04.ShaBlocks'. -/
def shaBlocksUptoCard : Claim7 := { stood := { row := shaBlocksUptoRow, standIns := [], harness := (true, "16ce78daa0961ec664670db8e2f1363ee5fd5dd4ac313eb7bdf8da11aab23067"), looks := false }, kinds := [], alts := [], laidByText := true, laidKinds := [.data], laidTests := true, laidLooks := .later }
def ShaBlocksUptoCardSaid : Prop := Claim7.holds Tryd.pinned (.plain (OpenSpec.upto shaBlocksSpec)) shaBlocksUptoCard

/-- THE SECOND FORM's CARD OF 'watchwordlaw06.AesSubstitutes'. -/
def aesSubstitutesUptoCard : Claim7 := { stood := { row := aesSubstitutesUptoRow, standIns := [], harness := (true, "16ce78daa0961ec664670db8e2f1363ee5fd5dd4ac313eb7bdf8da11aab23067"), looks := false }, kinds := [], alts := [], laidByText := true, laidKinds := [.data], laidTests := true, laidLooks := .later }
def AesSubstitutesUptoCardSaid : Prop := Claim7.holds Tryd.pinned (.plain (OpenSpec.upto aesSubstitutesSpec)) aesSubstitutesUptoCard

/-- THE SECOND FORM's CARD OF 'watchwordlaw06.AesKeys'. -/
def aesKeysUptoCard : Claim7 := { stood := { row := aesKeysUptoRow, standIns := [], harness := (true, "16ce78daa0961ec664670db8e2f1363ee5fd5dd4ac313eb7bdf8da11aab23067"), looks := false }, kinds := [], alts := [], laidByText := true, laidKinds := [.data], laidTests := true, laidLooks := .later }
def AesKeysUptoCardSaid : Prop := Claim7.holds Tryd.pinned (.plain (OpenSpec.upto aesKeysSpec)) aesKeysUptoCard

/-- THE SECOND FORM's CARD OF 'watchwordlaw04.ShaDivides'. -/
def shaDividesUptoCard : Claim7 := { stood := { row := shaDividesUptoRow, standIns := [], harness := (true, "16ce78daa0961ec664670db8e2f1363ee5fd5dd4ac313eb7bdf8da11aab23067"), looks := false }, kinds := [], alts := [], laidByText := true, laidKinds := [.data], laidTests := true, laidLooks := .later }
def ShaDividesUptoCardSaid : Prop := Claim7.holds Tryd.pinned (.plain (OpenSpec.upto shaDividesSpec)) shaDividesUptoCard

/-- THE SECOND FORM's CARD OF 'watchwordlaw04.ShaWrites'. -/
def shaWritesUptoCard : Claim7 := { stood := { row := shaWritesUptoRow, standIns := [], harness := (true, "16ce78daa0961ec664670db8e2f1363ee5fd5dd4ac313eb7bdf8da11aab23067"), looks := false }, kinds := [], alts := [], laidByText := true, laidKinds := [.data, .data], laidTests := true, laidLooks := .later }
def ShaWritesUptoCardSaid : Prop := Claim7.holds Tryd.pinned (.plain (OpenSpec.upto shaWritesSpec)) shaWritesUptoCard

/-- THE SECOND FORM's CARD OF 'watchwordlaw04.ShaNone'. -/
def shaNoneUptoCard : Claim7 := { stood := { row := shaNoneUptoRow, standIns := [], harness := (true, "16ce78daa0961ec664670db8e2f1363ee5fd5dd4ac313eb7bdf8da11aab23067"), looks := false }, kinds := [], alts := [], laidByText := true, laidKinds := [.data, .data], laidTests := true, laidLooks := .later }
def ShaNoneUptoCardSaid : Prop := Claim7.holds Tryd.pinned (.plain (OpenSpec.upto shaNoneSpec)) shaNoneUptoCard

/-- THE SECOND FORM's CARD OF 'watchwordlaw06.AesBlocks'. -/
def aesBlocksUptoCard : Claim7 := { stood := { row := aesBlocksUptoRow, standIns := [], harness := (true, "16ce78daa0961ec664670db8e2f1363ee5fd5dd4ac313eb7bdf8da11aab23067"), looks := false }, kinds := [], alts := [], laidByText := true, laidKinds := [.data], laidTests := true, laidLooks := .later }
def AesBlocksUptoCardSaid : Prop := Claim7.holds Tryd.pinned (.plain (OpenSpec.upto aesBlocksSpec)) aesBlocksUptoCard

/-- THE SECOND FORM's CARD OF 'watchwordlaw07.CtsTexts'. -/
def ctsTextsUptoCard : Claim7 := { stood := { row := ctsTextsUptoRow, standIns := [], harness := (true, "16ce78daa0961ec664670db8e2f1363ee5fd5dd4ac313eb7bdf8da11aab23067"), looks := false }, kinds := [], alts := [], laidByText := true, laidKinds := [.data], laidTests := true, laidLooks := .later }
def CtsTextsUptoCardSaid : Prop := Claim7.holds Tryd.pinned (.plain (OpenSpec.upto ctsTextsSpec)) ctsTextsUptoCard
end Rows
end Go.Proofs.YtjbnpbnfkgmkoaaDoor
