/- The example of the chapter. -/
import Derived.Test.YtncghckcdhfhjaaGreatDoorTab
import Derived.Test.YtncghckcdhfhjaaGreatDoorRunKeys
import Derived.Test.YtncghckcdhfhjaaGreatDoorRunSqz
import Derived.Test.YtncghckcdhfhjaaGreatDoorRunOpn
set_option maxRecDepth 100000
set_option maxHeartbeats 40000000
namespace Go.Proofs.Ah
open Go
noncomputable def tabA : Tab := (((tab.put f_kdf_Keys (.prim (orP (memoP a_Keys0 r_Keys0) (memoP a_Keys1 r_Keys1)))).put f_solid_Squeeze (.prim (memoP a_Sqz0 r_Sqz0))).put f_inflate_Inflate (.prim (memoP a_Opn0 r_Opn0)))
theorem tabA_ok : TabOk Go.Proofs.Tryz.prog tabA := (TabOk.put ent_Opn (TabOk.put ent_Sqz (TabOk.put ent_Keys tab_ok)))
theorem awake_ok : ACall Go.Proofs.Tryz.prog f_law19_Awake [] [] (.bool true) [] := run_bool tabA_ok (N := 100000) (n := 60) (by decide +kernel)
end Go.Proofs.Ah
