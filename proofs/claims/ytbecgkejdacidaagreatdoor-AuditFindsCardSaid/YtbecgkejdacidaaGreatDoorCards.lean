/-
  DERIVED. GIVEN WITH THE SEED: THE CARDS: each row of YtbecgkejdacidaaGreatDoorRows.lean that lists a variable, with what it lists TIED to the program's text (the seventh form; the later family's looks); each row that meets fmt, with fmt's text TOLD by the authors' own Lean function (tested against real Go, not proved from fmt's source: count such statements apart). THE CARD IS WHAT COUNTS. Prove the row's statement (the work); the ties are given (YtbecgkejdacidaaGreatDoorTie.lean); close each card by the builder's one call (the guide's Derived/Test/ToyasCard.lean, 'card_holds'). Laid BY PROGRAM, IN A SANDBOX (cutbox-door.mjs). By AI agents, Wed Nov 11 2026. No macro, syntax, notation, axiom, sorry.
-/
import Derived.Test.YtbecgkejdacidaaGreatDoorRows
import GoSem.ClaimSeven
namespace Go.Proofs.YtbecgkejdacidaaGreatDoor
namespace Rows

/-- THE TIED CARD OF 'skerrylaw32.StatsSum'. -/
def statsSumCard : Claim7 := { stood := { row := statsSumRow, standIns := [], harness := (true, "367503d1219b5296946ea50cbce7af74187deeecb45e1afd359862ce6c042c1c"), looks := false }, kinds := [], alts := [], laidByText := true, laidKinds := [.data, .data, .data, .data], laidTests := true, laidLooks := .later }
def StatsSumCardSaid : Prop := Claim7.holds Tryz.pinned (.plain (OpenSpec.ofChange statsSumSpec)) statsSumCard

/-- THE TIED CARD OF 'skerrylaw32.StatsPut'. -/
def statsPutCard : Claim7 := { stood := { row := statsPutRow, standIns := [], harness := (true, "367503d1219b5296946ea50cbce7af74187deeecb45e1afd359862ce6c042c1c"), looks := false }, kinds := [], alts := [], laidByText := true, laidKinds := [.data, .data, .data, .data], laidTests := true, laidLooks := .later }
def StatsPutCardSaid : Prop := Claim7.holds Tryz.pinned (.plain (OpenSpec.ofChange statsPutSpec)) statsPutCard

/-- THE TIED CARD OF 'skerrylaw29.AuditGaps'. -/
def auditGapsCard : Claim7 := { stood := { row := auditGapsRow, standIns := [], harness := (true, "367503d1219b5296946ea50cbce7af74187deeecb45e1afd359862ce6c042c1c"), looks := false }, kinds := [], alts := [], laidByText := true, laidKinds := [.data, .data, .data, .data], laidTests := true, laidLooks := .later }
def AuditGapsCardSaid : Prop := Claim7.holds Tryz.pinned (.plain (OpenSpec.ofChange auditGapsSpec)) auditGapsCard

/-- THE TIED CARD OF 'skerrylaw29.AuditFinds'. -/
def auditFindsCard : Claim7 := { stood := { row := auditFindsRow, standIns := [], harness := (true, "367503d1219b5296946ea50cbce7af74187deeecb45e1afd359862ce6c042c1c"), looks := false }, kinds := [], alts := [], laidByText := true, laidKinds := [.data, .data, .data, .data], laidTests := true, laidLooks := .later }
def AuditFindsCardSaid : Prop := Claim7.holds Tryz.pinned (.plain (OpenSpec.ofChange auditFindsSpec)) auditFindsCard

/-- THE TIED CARD OF 'skerrylaw29.AuditTells'. -/
def auditTellsCard : Claim7 := { stood := { row := auditTellsRow, standIns := [], harness := (true, "367503d1219b5296946ea50cbce7af74187deeecb45e1afd359862ce6c042c1c"), looks := false }, kinds := [], alts := [], laidByText := true, laidKinds := [.data, .data, .data, .data], laidTests := true, laidLooks := .later }
def AuditTellsCardSaid : Prop := Claim7.holds Tryz.pinned (.plain (OpenSpec.ofChange auditTellsSpec)) auditTellsCard

/-- THE SECOND FORM's CARD OF 'skerrylaw32.StatsSum'. -/
def statsSumUptoCard : Claim7 := { stood := { row := statsSumUptoRow, standIns := [], harness := (true, "367503d1219b5296946ea50cbce7af74187deeecb45e1afd359862ce6c042c1c"), looks := false }, kinds := [], alts := [], laidByText := true, laidKinds := [.data, .data, .data, .data], laidTests := true, laidLooks := .later }
def StatsSumUptoCardSaid : Prop := Claim7.holds Tryz.pinned (.plain (OpenSpec.upto statsSumSpec)) statsSumUptoCard

/-- THE SECOND FORM's CARD OF 'skerrylaw32.StatsPut'. -/
def statsPutUptoCard : Claim7 := { stood := { row := statsPutUptoRow, standIns := [], harness := (true, "367503d1219b5296946ea50cbce7af74187deeecb45e1afd359862ce6c042c1c"), looks := false }, kinds := [], alts := [], laidByText := true, laidKinds := [.data, .data, .data, .data], laidTests := true, laidLooks := .later }
def StatsPutUptoCardSaid : Prop := Claim7.holds Tryz.pinned (.plain (OpenSpec.upto statsPutSpec)) statsPutUptoCard

/-- THE SECOND FORM's CARD OF 'skerrylaw29.AuditGaps'. -/
def auditGapsUptoCard : Claim7 := { stood := { row := auditGapsUptoRow, standIns := [], harness := (true, "367503d1219b5296946ea50cbce7af74187deeecb45e1afd359862ce6c042c1c"), looks := false }, kinds := [], alts := [], laidByText := true, laidKinds := [.data, .data, .data, .data], laidTests := true, laidLooks := .later }
def AuditGapsUptoCardSaid : Prop := Claim7.holds Tryz.pinned (.plain (OpenSpec.upto auditGapsSpec)) auditGapsUptoCard

/-- THE SECOND FORM's CARD OF 'skerrylaw29.AuditFinds'. -/
def auditFindsUptoCard : Claim7 := { stood := { row := auditFindsUptoRow, standIns := [], harness := (true, "367503d1219b5296946ea50cbce7af74187deeecb45e1afd359862ce6c042c1c"), looks := false }, kinds := [], alts := [], laidByText := true, laidKinds := [.data, .data, .data, .data], laidTests := true, laidLooks := .later }
def AuditFindsUptoCardSaid : Prop := Claim7.holds Tryz.pinned (.plain (OpenSpec.upto auditFindsSpec)) auditFindsUptoCard

/-- THE SECOND FORM's CARD OF 'skerrylaw29.AuditTells'. -/
def auditTellsUptoCard : Claim7 := { stood := { row := auditTellsUptoRow, standIns := [], harness := (true, "367503d1219b5296946ea50cbce7af74187deeecb45e1afd359862ce6c042c1c"), looks := false }, kinds := [], alts := [], laidByText := true, laidKinds := [.data, .data, .data, .data], laidTests := true, laidLooks := .later }
def AuditTellsUptoCardSaid : Prop := Claim7.holds Tryz.pinned (.plain (OpenSpec.upto auditTellsSpec)) auditTellsUptoCard
end Rows
end Go.Proofs.YtbecgkejdacidaaGreatDoor
