/- What sledge/kdf.Keys gives: the machine's run. -/
import Derived.Test.YtncghckcdhfhjaaGreatDoorTab
set_option maxRecDepth 100000
set_option maxHeartbeats 40000000
namespace Go.Proofs.Ah
open Go
def a_Keys0 : List AV := [.str (bytesOf [115]), .str (bytesOf [115, 97, 108, 116, 4, 5, 6, 7, 8, 9, 10, 11, 12, 13, 14, 15])]
def r_Keys0 : AV := .agg [.str (bytesOf [175, 34, 229, 180, 255, 21, 238, 119, 141, 240, 208, 107, 121, 237, 247, 0, 95, 110, 181, 1, 138, 51, 88, 151, 210, 77, 244, 6, 35, 6, 210, 24]), .str (bytesOf [214, 162, 101, 238, 90, 251, 113, 98, 220, 230, 155, 211, 124, 230, 232, 216, 172, 222, 249, 211, 122, 121, 111, 213, 3, 163, 52, 47, 8, 133, 108, 177]), .str (bytesOf [99, 92, 220, 172, 47, 209, 125, 152, 245, 28, 243, 212, 52, 67, 4, 67, 159, 212, 28, 67, 33, 199, 164, 24, 178, 211, 127, 217, 175, 83, 194, 69])]
theorem run_Keys0 : ACall Go.Proofs.Tryz.prog f_kdf_Keys a_Keys0 [] r_Keys0 [] := run_any tab_ok (N := 100000) (n := 60) (by decide +kernel)
def a_Keys1 : List AV := [.str (bytesOf [115]), .str (bytesOf [])]
def r_Keys1 : AV := .agg [.str (bytesOf [102, 151, 195, 209, 36, 59, 64, 121, 44, 129, 251, 219, 255, 16, 143, 176, 45, 108, 41, 96, 32, 27, 91, 92, 148, 223, 69, 112, 176, 143, 58, 128]), .str (bytesOf [153, 121, 251, 214, 174, 168, 78, 219, 245, 108, 4, 250, 108, 209, 204, 52, 129, 125, 172, 88, 142, 91, 144, 90, 115, 121, 220, 77, 181, 125, 251, 107]), .str (bytesOf [99, 92, 220, 172, 47, 209, 125, 152, 245, 28, 243, 212, 52, 67, 4, 67, 159, 212, 28, 67, 33, 199, 164, 24, 178, 211, 127, 217, 175, 83, 194, 69])]
theorem run_Keys1 : ACall Go.Proofs.Tryz.prog f_kdf_Keys a_Keys1 [] r_Keys1 [] := run_any tab_ok (N := 100000) (n := 60) (by decide +kernel)
theorem ent_Keys : EntOk Go.Proofs.Tryz.prog f_kdf_Keys (.prim (orP (memoP a_Keys0 r_Keys0) (memoP a_Keys1 r_Keys1))) := or_ok (memo_ok run_Keys0 (by decide +kernel) (by decide +kernel)) (memo_ok run_Keys1 (by decide +kernel) (by decide +kernel))
end Go.Proofs.Ah
