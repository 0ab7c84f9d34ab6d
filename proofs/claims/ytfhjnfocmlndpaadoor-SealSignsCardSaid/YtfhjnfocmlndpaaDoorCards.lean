/-
  DERIVED. GIVEN WITH THE SEED: THE CARDS: each row of YtfhjnfocmlndpaaDoorRows.lean that lists a variable, with what it lists TIED to the program's text (the seventh form; the later family's looks); each row that meets fmt, with fmt's text TOLD by the authors' own Lean function (tested against real Go, not proved from fmt's source: count such statements apart). THE CARD IS WHAT COUNTS. Prove the row's statement (the work); the ties are given (YtfhjnfocmlndpaaDoorTie.lean); close each card by the builder's one call (the guide's Derived/Test/ToyasCard.lean, 'card_holds'). Laid BY PROGRAM, IN A SANDBOX (cutbox-door.mjs). By AI agents, Wed Nov 11 2026. No macro, syntax, notation, axiom, sorry.
-/
import Derived.Test.YtfhjnfocmlndpaaDoorRows
import GoSem.ClaimSeven
namespace Go.Proofs.YtfhjnfocmlndpaaDoor
namespace Rows

/-- THE TIED CARD OF 'rollkeeperlaw.SumTells'. -/
def sumTellsCard : Claim7 := { stood := { row := sumTellsRow, standIns := [], harness := (true, "451c53c2aa81993ef6003f5569233c4175ed6513d7301b564c80f0428081b591"), looks := true }, kinds := [], alts := [], laidByText := true, laidKinds := [.data, .data, .data, .data], laidTests := true, laidLooks := .later }
def SumTellsCardSaid : Prop := Claim7.holds Tryd.pinned (.plain (OpenSpec.ofChange sumTellsSpec)) sumTellsCard

/-- THE TIED CARD OF 'rollkeeperlaw.OnceSigns'. -/
def onceSignsCard : Claim7 := { stood := { row := onceSignsRow, standIns := [], harness := (true, "451c53c2aa81993ef6003f5569233c4175ed6513d7301b564c80f0428081b591"), looks := true }, kinds := [], alts := [], laidByText := true, laidKinds := [.data, .handle], laidTests := true, laidLooks := .later }
def OnceSignsCardSaid : Prop := Claim7.holds Tryd.pinned (.plain (OpenSpec.ofChange onceSignsSpec)) onceSignsCard

/-- THE TIED CARD OF 'rollkeeperlaw.ProofLeads'. -/
def proofLeadsCard : Claim7 := { stood := { row := proofLeadsRow, standIns := [], harness := (true, "451c53c2aa81993ef6003f5569233c4175ed6513d7301b564c80f0428081b591"), looks := true }, kinds := [], alts := [], laidByText := true, laidKinds := [.data, .handle], laidTests := true, laidLooks := .later }
def ProofLeadsCardSaid : Prop := Claim7.holds Tryd.pinned (.plain (OpenSpec.ofChange proofLeadsSpec)) proofLeadsCard

/-- THE TIED CARD OF 'rollkeeperlaw.WireWrites'. -/
def wireWritesCard : Claim7 := { stood := { row := wireWritesRow, standIns := [], harness := (true, "451c53c2aa81993ef6003f5569233c4175ed6513d7301b564c80f0428081b591"), looks := true }, kinds := [], alts := [], laidByText := true, laidKinds := [.handle], laidTests := true, laidLooks := .later }
def WireWritesCardSaid : Prop := Claim7.holds Tryd.pinned (.plain (OpenSpec.ofChange wireWritesSpec)) wireWritesCard

/-- THE TIED CARD OF 'rollkeeperkeep.IndexCommon'. -/
def indexCommonCard : Claim7 := { stood := { row := indexCommonRow, standIns := [], harness := (true, "451c53c2aa81993ef6003f5569233c4175ed6513d7301b564c80f0428081b591"), looks := true }, kinds := [], alts := [], laidByText := true, laidKinds := [.data, .data, .pinned], laidTests := true, laidLooks := .later }
def IndexCommonCardSaid : Prop := Claim7.holds Tryd.pinned (.plain (OpenSpec.ofChange indexCommonSpec)) indexCommonCard

/-- THE TIED CARD OF 'rollkeeperlaw.SealSigns'. -/
def sealSignsCard : Claim7 := { stood := { row := sealSignsRow, standIns := [], harness := (true, "451c53c2aa81993ef6003f5569233c4175ed6513d7301b564c80f0428081b591"), looks := true }, kinds := [], alts := [], laidByText := true, laidKinds := [.data, .handle], laidTests := true, laidLooks := .later }
def SealSignsCardSaid : Prop := Claim7.holds Tryd.pinned (.plain (OpenSpec.ofChange sealSignsSpec)) sealSignsCard

/-- THE TIED CARD OF 'rollkeeperlaw.ChainHeads'. -/
def chainHeadsCard : Claim7 := { stood := { row := chainHeadsRow, standIns := [], harness := (true, "451c53c2aa81993ef6003f5569233c4175ed6513d7301b564c80f0428081b591"), looks := true }, kinds := [], alts := [], laidByText := true, laidKinds := [.data, .handle], laidTests := true, laidLooks := .later }
def ChainHeadsCardSaid : Prop := Claim7.holds Tryd.pinned (.plain (OpenSpec.ofChange chainHeadsSpec)) chainHeadsCard

/-- THE TIED CARD OF 'rollkeeperkeep.TrieOrder'. -/
def trieOrderCard : Claim7 := { stood := { row := trieOrderRow, standIns := [], harness := (true, "451c53c2aa81993ef6003f5569233c4175ed6513d7301b564c80f0428081b591"), looks := true }, kinds := [], alts := [], laidByText := true, laidKinds := [.data], laidTests := true, laidLooks := .later }
def TrieOrderCardSaid : Prop := Claim7.holds Tryd.pinned (.plain (OpenSpec.ofChange trieOrderSpec)) trieOrderCard

/-- THE TIED CARD OF 'rollkeeperkeep.ProofThere'. -/
def proofThereCard : Claim7 := { stood := { row := proofThereRow, standIns := [], harness := (true, "451c53c2aa81993ef6003f5569233c4175ed6513d7301b564c80f0428081b591"), looks := true }, kinds := [], alts := [], laidByText := true, laidKinds := [.data], laidTests := true, laidLooks := .later }
def ProofThereCardSaid : Prop := Claim7.holds Tryd.pinned (.plain (OpenSpec.ofChange proofThereSpec)) proofThereCard

/-- THE TIED CARD OF 'rollkeeperlaw.IndexLies'. -/
def indexLiesCard : Claim7 := { stood := { row := indexLiesRow, standIns := [], harness := (true, "451c53c2aa81993ef6003f5569233c4175ed6513d7301b564c80f0428081b591"), looks := true }, kinds := [], alts := [], laidByText := true, laidKinds := [.data, .data, .handle, .pinned], laidTests := true, laidLooks := .later }
def IndexLiesCardSaid : Prop := Claim7.holds Tryd.pinned (.plain (OpenSpec.ofChange indexLiesSpec)) indexLiesCard

/-- THE SECOND FORM's CARD OF 'rollkeeperlaw.SumTells'. -/
def sumTellsUptoCard : Claim7 := { stood := { row := sumTellsUptoRow, standIns := [], harness := (true, "451c53c2aa81993ef6003f5569233c4175ed6513d7301b564c80f0428081b591"), looks := true }, kinds := [], alts := [], laidByText := true, laidKinds := [.data, .data, .data, .data], laidTests := true, laidLooks := .later }
def SumTellsUptoCardSaid : Prop := Claim7.holds Tryd.pinned (.plain (OpenSpec.upto sumTellsSpec)) sumTellsUptoCard

/-- THE SECOND FORM's CARD OF 'rollkeeperlaw.OnceSigns'. -/
def onceSignsUptoCard : Claim7 := { stood := { row := onceSignsUptoRow, standIns := [], harness := (true, "451c53c2aa81993ef6003f5569233c4175ed6513d7301b564c80f0428081b591"), looks := true }, kinds := [], alts := [], laidByText := true, laidKinds := [.data, .handle], laidTests := true, laidLooks := .later }
def OnceSignsUptoCardSaid : Prop := Claim7.holds Tryd.pinned (.plain (OpenSpec.upto onceSignsSpec)) onceSignsUptoCard

/-- THE SECOND FORM's CARD OF 'rollkeeperlaw.ProofLeads'. -/
def proofLeadsUptoCard : Claim7 := { stood := { row := proofLeadsUptoRow, standIns := [], harness := (true, "451c53c2aa81993ef6003f5569233c4175ed6513d7301b564c80f0428081b591"), looks := true }, kinds := [], alts := [], laidByText := true, laidKinds := [.data, .handle], laidTests := true, laidLooks := .later }
def ProofLeadsUptoCardSaid : Prop := Claim7.holds Tryd.pinned (.plain (OpenSpec.upto proofLeadsSpec)) proofLeadsUptoCard

/-- THE SECOND FORM's CARD OF 'rollkeeperlaw.WireWrites'. -/
def wireWritesUptoCard : Claim7 := { stood := { row := wireWritesUptoRow, standIns := [], harness := (true, "451c53c2aa81993ef6003f5569233c4175ed6513d7301b564c80f0428081b591"), looks := true }, kinds := [], alts := [], laidByText := true, laidKinds := [.handle], laidTests := true, laidLooks := .later }
def WireWritesUptoCardSaid : Prop := Claim7.holds Tryd.pinned (.plain (OpenSpec.upto wireWritesSpec)) wireWritesUptoCard

/-- THE SECOND FORM's CARD OF 'rollkeeperkeep.IndexCommon'. -/
def indexCommonUptoCard : Claim7 := { stood := { row := indexCommonUptoRow, standIns := [], harness := (true, "451c53c2aa81993ef6003f5569233c4175ed6513d7301b564c80f0428081b591"), looks := true }, kinds := [], alts := [], laidByText := true, laidKinds := [.data, .data, .pinned], laidTests := true, laidLooks := .later }
def IndexCommonUptoCardSaid : Prop := Claim7.holds Tryd.pinned (.plain (OpenSpec.upto indexCommonSpec)) indexCommonUptoCard

/-- THE SECOND FORM's CARD OF 'rollkeeperlaw.SealSigns'. -/
def sealSignsUptoCard : Claim7 := { stood := { row := sealSignsUptoRow, standIns := [], harness := (true, "451c53c2aa81993ef6003f5569233c4175ed6513d7301b564c80f0428081b591"), looks := true }, kinds := [], alts := [], laidByText := true, laidKinds := [.data, .handle], laidTests := true, laidLooks := .later }
def SealSignsUptoCardSaid : Prop := Claim7.holds Tryd.pinned (.plain (OpenSpec.upto sealSignsSpec)) sealSignsUptoCard

/-- THE SECOND FORM's CARD OF 'rollkeeperlaw.ChainHeads'. -/
def chainHeadsUptoCard : Claim7 := { stood := { row := chainHeadsUptoRow, standIns := [], harness := (true, "451c53c2aa81993ef6003f5569233c4175ed6513d7301b564c80f0428081b591"), looks := true }, kinds := [], alts := [], laidByText := true, laidKinds := [.data, .handle], laidTests := true, laidLooks := .later }
def ChainHeadsUptoCardSaid : Prop := Claim7.holds Tryd.pinned (.plain (OpenSpec.upto chainHeadsSpec)) chainHeadsUptoCard

/-- THE SECOND FORM's CARD OF 'rollkeeperkeep.TrieOrder'. -/
def trieOrderUptoCard : Claim7 := { stood := { row := trieOrderUptoRow, standIns := [], harness := (true, "451c53c2aa81993ef6003f5569233c4175ed6513d7301b564c80f0428081b591"), looks := true }, kinds := [], alts := [], laidByText := true, laidKinds := [.data], laidTests := true, laidLooks := .later }
def TrieOrderUptoCardSaid : Prop := Claim7.holds Tryd.pinned (.plain (OpenSpec.upto trieOrderSpec)) trieOrderUptoCard

/-- THE SECOND FORM's CARD OF 'rollkeeperkeep.ProofThere'. -/
def proofThereUptoCard : Claim7 := { stood := { row := proofThereUptoRow, standIns := [], harness := (true, "451c53c2aa81993ef6003f5569233c4175ed6513d7301b564c80f0428081b591"), looks := true }, kinds := [], alts := [], laidByText := true, laidKinds := [.data], laidTests := true, laidLooks := .later }
def ProofThereUptoCardSaid : Prop := Claim7.holds Tryd.pinned (.plain (OpenSpec.upto proofThereSpec)) proofThereUptoCard

/-- THE SECOND FORM's CARD OF 'rollkeeperlaw.IndexLies'. -/
def indexLiesUptoCard : Claim7 := { stood := { row := indexLiesUptoRow, standIns := [], harness := (true, "451c53c2aa81993ef6003f5569233c4175ed6513d7301b564c80f0428081b591"), looks := true }, kinds := [], alts := [], laidByText := true, laidKinds := [.data, .data, .handle, .pinned], laidTests := true, laidLooks := .later }
def IndexLiesUptoCardSaid : Prop := Claim7.holds Tryd.pinned (.plain (OpenSpec.upto indexLiesSpec)) indexLiesUptoCard
end Rows
end Go.Proofs.YtfhjnfocmlndpaaDoor
