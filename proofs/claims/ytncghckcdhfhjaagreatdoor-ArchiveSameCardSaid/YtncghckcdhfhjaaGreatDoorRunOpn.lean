/- What sledge/inflate.Inflate gives: the machine's run. -/
import Derived.Test.YtncghckcdhfhjaaGreatDoorTab
set_option maxRecDepth 100000
set_option maxHeartbeats 40000000
namespace Go.Proofs.Ah
open Go
def a_Opn0 : List AV := [.str (bytesOf [99, 100, 76, 100, 172, 0, 0]), .int .i64 5]
def r_Opn0 : AV := .tup [.str (bytesOf [1, 1, 97, 1, 120]), .int .i64 7, .int .i64 0]
theorem run_Opn0 : ACall Go.Proofs.Tryz.prog f_inflate_Inflate a_Opn0 [] r_Opn0 [] := run_any tab_ok (N := 100000) (n := 60) (by decide +kernel)
theorem ent_Opn : EntOk Go.Proofs.Tryz.prog f_inflate_Inflate (.prim (memoP a_Opn0 r_Opn0)) := memo_ok run_Opn0 (by decide +kernel) (by decide +kernel)
end Go.Proofs.Ah
