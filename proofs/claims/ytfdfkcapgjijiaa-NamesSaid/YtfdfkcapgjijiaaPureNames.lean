/- Names: the names of package api stand for the document's numbers. No condition: the statement has no input. -/
import Derived.Test.YtfdfkcapgjijiaaPNamesx1
namespace Go.Proofs.Ytfdfkcapgjijiaa.Pure
open Go.RowKit Go.Proofs.Ytfdfkcapgjijiaa.PNames Go.Proofs.YtfdfkcapgjijiaaW.PrintWords Go.Proofs.YtfdfkcapgjijiaaW.PrintLast

theorem Names : recensionlaw0_Names.Pure := ⟨100, by decide +kernel⟩

end Go.Proofs.Ytfdfkcapgjijiaa.Pure
