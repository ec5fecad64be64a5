/- The examples of layer 13, closed. -/
import Derived.Test.YtccmfddnbofgkaaGreatKj
namespace Bu
set_option linter.all false
open Rx Go

def WR : Kw := ⟨KkR, KqR atR, fun v al a b => drR KkR (drEnv (KqR atR) v al a b), dnR KkR, ggR KkR ggF, unV KkR, unB, bwF, pairB, wN32, meetsB⟩
set_option maxRecDepth 100000 in
theorem aw13_ok : obsB (aw13 WR) = true := by decide +kernel
set_option maxRecDepth 100000 in
theorem aw13_p : pairB mone64 one64 = true ∧ pairB d64 one64 = true ∧ pairB minA one64 = true := by decide +kernel
end Bu
