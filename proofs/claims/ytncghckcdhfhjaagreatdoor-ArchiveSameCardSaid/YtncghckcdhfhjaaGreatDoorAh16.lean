/- Short words for code literals. -/
import Derived.Test.YtncghckcdhfhjaaGreatDoorAh15
set_option linter.unusedVariables false
namespace Go.Proofs.Ah
open Go

instance instOfNatArg (n : Nat) : OfNat Arg n := ⟨.t n⟩
abbrev O (d : Nat) (x : AOp) : AOper := ⟨some d, .op x, none⟩
abbrev S (x : AOp) : AOper := ⟨none, .op x, none⟩
abbrev C (d : Nat) (f : FuncId) (xs : List Arg) : AOper := ⟨some d, .call f xs, none⟩
abbrev CV (d : Nat) (g : Arg) (xs : List Arg) : AOper := ⟨some d, .callv g xs, none⟩
abbrev OT (g d : Nat) (x : AOp) : AOper := ⟨some d, .op x, some (g, true)⟩
abbrev OF (g d : Nat) (x : AOp) : AOper := ⟨some d, .op x, some (g, false)⟩
abbrev CT (g d : Nat) (f : FuncId) (xs : List Arg) : AOper := ⟨some d, .call f xs, some (g, true)⟩
abbrev CF (g d : Nat) (f : FuncId) (xs : List Arg) : AOper := ⟨some d, .call f xs, some (g, false)⟩
def I (n : Nat) : Arg := .c (.nat .i64 n)
def U8 (n : Nat) : Arg := .c (.nat .u8 n)
def U32 (n : Nat) : Arg := .c (.nat .u32 n)
def U64 (n : Nat) : Arg := .c (.nat .u64 n)
section
variable {fr : AFrame}
theorem num_t (n : Nat) : (@OfNat.ofNat Arg n (instOfNatArg n)) = .t n := _root_.id rfl
theorem ev_num (n : Nat) : (OfNat.ofNat n : Arg).ev fr = fr n := _root_.id rfl
theorem ev_I (n : Nat) : (I n).ev fr = .nat .i64 n := _root_.id rfl
theorem ev_U8 (n : Nat) : (U8 n).ev fr = .nat .u8 n := _root_.id rfl
theorem ev_U32 (n : Nat) : (U32 n).ev fr = .nat .u32 n := _root_.id rfl
theorem ev_U64 (n : Nat) : (U64 n).ev fr = .nat .u64 n := _root_.id rfl
end
attribute [go_sem] num_t ev_I ev_U8 ev_U32 ev_U64
end Go.Proofs.Ah

