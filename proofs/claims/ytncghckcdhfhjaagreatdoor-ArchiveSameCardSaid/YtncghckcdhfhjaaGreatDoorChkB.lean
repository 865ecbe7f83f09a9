/- path.Check at "a": the contract. -/
import Derived.Test.YtncghckcdhfhjaaGreatDoorChk
import Derived.KernelRfl
set_option maxRecDepth 100000
namespace Go.Proofs.Ah
open Go Go.RowKit
abbrev f_path_Check : Nat := 120
theorem check_callOk : CallOk Go.Proofs.Tryz.prog f_path_Check := ⟨Go.Proofs.Tryz.f120, Go.Proofs.Tryz.func120, by kernel_rfl, by kernel_rfl⟩
theorem acall_str {P : Program} {f : FuncId} (hok : CallOk P f) (s : ByteArray) (k : IntKind) (n : Int) (h : ∀ w, Calls P f #[.string s] w fun e W' => e = .returned (.int k n) ∧ Below w.heap.size w W') : ACall P f [.str s] [] (.int k n) [] := acall_below hok fun μ w xs hx => by
  obtain ⟨x, rfl, hv⟩ := hx.one
  cases hv
  refine (h w).mono ?_
  rintro e w' ⟨rfl, hb⟩
  exact ⟨_, rfl, hb, fun _ _ _ => .int _ _⟩
theorem check_a : ACall Go.Proofs.Tryz.prog f_path_Check [.str (bytesOf [97])] [] (.int .i64 0) [] := acall_str check_callOk _ _ _ check_calls
theorem check_ent : EntOk Go.Proofs.Tryz.prog f_path_Check (.prim (memoP [.str (bytesOf [97])] (.int .i64 0))) := memo_ok check_a (by decide +kernel) (by decide +kernel)
end Go.Proofs.Ah
