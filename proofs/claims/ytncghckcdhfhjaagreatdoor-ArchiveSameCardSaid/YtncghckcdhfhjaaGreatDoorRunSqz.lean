/- What sledge/solid.Squeeze gives: the machine's run. -/
import Derived.Test.YtncghckcdhfhjaaGreatDoorTab
set_option maxRecDepth 100000
set_option maxHeartbeats 40000000
namespace Go.Proofs.Ah
open Go
def a_Sqz0 : List AV := [.lst 1 2 true [.str (bytesOf [97]), .str (bytesOf [120])]]
def r_Sqz0 : AV := .tup [.str (bytesOf [99, 100, 76, 100, 172, 0, 0]), .int .i64 5, .int .i64 0]
theorem run_Sqz0 : ACall Go.Proofs.Tryz.prog f_solid_Squeeze a_Sqz0 [] r_Sqz0 [] := run_any tab_ok (N := 100000) (n := 60) (by decide +kernel)
theorem ent_Sqz : EntOk Go.Proofs.Tryz.prog f_solid_Squeeze (.prim (memoP a_Sqz0 r_Sqz0)) := memo_ok run_Sqz0 (by decide +kernel) (by decide +kernel)
end Go.Proofs.Ah
