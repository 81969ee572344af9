/- What lives asks, plain. -/
import Derived.Test.YtpgdioopkcfjdaaPrD
namespace Go.Proofs.Ytpgdioopkcfjdaa
abbrev livL : PL := [([97], [49]), ([98], [36, 123, 97, 125, 46, 50])]
abbrev livU : PL := [([97], [36, 123, 98, 125]), ([98], [36, 123, 97, 125])]
theorem liv_first : txtP (fun done m => valP livL 32 [] done m) livL [] [] [] [120, 36, 123, 98, 125, 36, 123, 99, 125] = (.ok [120, 49, 46, 50, 36, 123, 99, 125], [([97], [49]), ([98], [49, 46, 50])]) := by decide +kernel
theorem liv_second : txtP (fun done m => valP livU 32 [] done m) livU [] [] [] [36, 123, 97, 125] = (.loop [97], []) := by decide +kernel
end Go.Proofs.Ytpgdioopkcfjdaa
