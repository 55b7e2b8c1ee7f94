/-
  The chapter's examples, in plain words: closed facts, by the kernel's reckoning.
-/
import Derived.Test.YtfcialmdediojaaPairE
namespace Go.Proofs.Ytfcialmdediojaa
set_option linter.unusedVariables false
set_option linter.unusedSimpArgs false
open Go.RowKit
def aD0 : Dev := Dev.new 3
def aD1 : Dev := (saveS aD0 0 0 1 [97]).1.1
def aD2 : Dev := (saveS aD1 1 0 1 [98]).1.1
def aX : List UInt8 := (aD2.read 2).1
def aY : List UInt8 := aX.set 50 ((aX.getD 50 0) ^^^ 4)
def aD3 : Dev := (aD2.write 2 aY).1
set_option maxRecDepth 100000
theorem aw1 : openS aD0 1 = (some (0, 0, []), 0) := by decide +kernel
theorem aw2 : (saveS aD0 0 0 1 [97]).1.2 = (1, 0) ∧ (saveS aD0 0 0 1 [97]).2 = 0 := by decide +kernel
theorem aw3 : (saveS aD1 1 0 1 [98]).1.2 = (2, 1) ∧ (saveS aD1 1 0 1 [98]).2 = 0 := by decide +kernel
theorem aw4 : openS aD2 1 = (some (2, 1, [98]), 0) := by decide +kernel
theorem aw5 : (aD2.read 2).2 = 0 ∧ aX.length = 128 := by decide +kernel
theorem aw6 : (aD2.write 2 aY).2 = 0 ∧ aY.length = 128 := by decide +kernel
theorem aw7 : openS aD3 1 = (none, 110) := by decide +kernel
theorem aw8 : openS aD3 2 = (none, 9) := by decide +kernel
theorem aw9 : aX.getD 50 0 = 0 := by decide +kernel
def kD0 : Dev := Dev.new 2
def kD1 : Dev := (saveS kD0 0 0 0 [113]).1.1
def kD2 : Dev := (kD1.write 1 (kD1.read 0).1).1
theorem kn1 : openS kD0 0 = (some (0, 0, []), 0) := by decide +kernel
theorem kn2 : (saveS kD0 0 0 0 [113]).1.2 = (1, 0) ∧ (saveS kD0 0 0 0 [113]).2 = 0 := by decide +kernel
theorem kn3 : (kD1.read 0).2 = 0 ∧ (kD1.read 0).1.length = 128 := by decide +kernel
theorem kn4 : (kD1.write 1 (kD1.read 0).1).2 = 0 := by decide +kernel
theorem kn5 : openS kD2 0 = (none, 110) := by decide +kernel
theorem kn6 : openS ((Dev.new 2).crash []).1 0 = (none, 100) := by decide +kernel
end Go.Proofs.Ytfcialmdediojaa
