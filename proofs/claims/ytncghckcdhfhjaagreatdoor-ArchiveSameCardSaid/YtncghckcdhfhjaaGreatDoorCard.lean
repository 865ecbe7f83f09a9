/- PROVED: 'sledgelaw19.ArchiveSame' gives true for every two archives, however long their texts and lists (as the row lists what it reads: two tables of Go's library, as the program's text lays them). -/
import Derived.Test.YtncghckcdhfhjaaGreatDoorRow
set_option linter.unusedVariables false
set_option maxRecDepth 100000
namespace Go.Proofs.YtncghckcdhfhjaaGreatDoor.archiveSame
open Go Go.ChangeShapes Go.WideShapes Go.ChangeAt Go.RowKit Go.Proofs.Ah

theorem own : ownKnob Tryz.prog.godebug = none := by kernel_rfl
theorem laidOut : laidOutB Tryz.prog = true := by kernel_rfl
theorem readable : Tryz.prog.readableRec 26 = true := by kernel_rfl
theorem rowed : 26 < Tryz.prog.types.size := of_decide_eq_true (by kernel_rfl)

theorem contract (H : Type) (enc : TypeId × Value → H) (W : World) (base : Nat) (args : Array Value) (ds gs : List (DataW H)) (before : List MemPlace)
    (hval : ∀ (j : Nat) t v, Tryz.f4.params[j]? = some t → args[j]? = some v → Value.okWide Tryz.prog W .any base t v)
    (hW : DataW.Whole enc Tryz.prog Tryz.f4.params.toList Rows.archiveSameSpec.vars false W args.toList ds gs before) :
    Calls Tryz.prog 4 args W fun e W' => ∃ v, e = .returned v ∧ Rows.archiveSameSpec.post enc Tryz.prog Tryz.f4 false true false false W args v W' := by
  have hW' := hW
  have hlt := hW.lt
  obtain ⟨p, q, hA0, hV, rfl, hfz, hnd⟩ := hW
  have hA : DataW.TrodAll enc Tryz.prog W 0 (fun _ => true) true Tryz.f4.params.toList args.toList ds p := hA0
  rw [Tryz.params4] at hA hval
  obtain ⟨v0, vs0, d0, ds0, p0, q0, hargs, rfl, rfl, h0, r0⟩ := trodAll_cons hA
  obtain ⟨v1, vs1, d1, ds1, p1, q1, rfl, rfl, rfl, h1, r1⟩ := trodAll_cons r0
  obtain ⟨rfl, rfl, rfl⟩ := trodAll_nil r1
  obtain rfl : args = #[v0, v1] := by cases args; simp_all
  obtain ⟨rfl, rfl⟩ := trodVars_none hV
  obtain ⟨g, us, x, hx, hn, X⟩ := open_arch (hval 0 _ v0 rfl rfl) h0
  obtain ⟨h, bs, y, hy, hm, Y⟩ := open_arch (hval 1 _ v1 rfl rfl) h1
  have hmax : maxLen < 9223372036854775808 := by decide
  refine ((lawSame_ok g h hx hy (Nat.lt_of_le_of_lt hn hmax) (Nat.lt_of_le_of_lt hm hmax) []).calls W #[v0, v1] fun μ => ⟨rfl, fun i hi hi' => ?_⟩).mono ?_
  · match i, hi with
    | 0, _ => exact X μ
    | 1, _ => exact Y μ
  · rintro e W' ⟨v, μ', rfl, hb, V⟩
    cases V
    have e1 : Rows.archiveSameSpec.fn H ([d0, d1] ++ []) = { results := [.lit (.bool true)], args := [d0, d1] } := rfl
    refine ⟨_, rfl, _, _, _, [], p0 ++ (p1 ++ []), [], hW', ?_, ?_, ?_, hb.frame _, fun h => by cases h⟩
    · rw [e1]; exact trodAll_mk1 (shut_bool Tryz.underlying4 true)
    · rw [e1, Tryz.params4]
      exact trodAll_cons_mk (hb.trod laidOut readable rowed h0 fun z hz => hlt z (by simp [hz])) (trodAll_cons_mk (hb.trod laidOut readable rowed h1 fun z hz => hlt z (by simp [hz])) trodAll_mk0)
    · rw [e1]; rfl
def l0 : DataW Unit → List Value
  | .lit l => [l.value]
  | _ => []
def l1 : DataW Unit → List Value
  | .agg ds => ds.flatMap l0
  | d => l0 d
def l2 : DataW Unit → List Value
  | .agg ds => ds.flatMap l1
  | _ => []
/-- A WORLD FOR THE WITNESS: the settled one, the two tables holding what the text lays. -/
noncomputable def layTab (d : DataW Unit) : Obj → Obj
  | .cells _ t frozen => .cells (l2 d).toArray t frozen
  | o => o
noncomputable def laidWorld (os : Os) : World :=
  { World.holding Tryz.prog os ⟨#[], #[], []⟩ with heap := (((World.holding Tryz.prog os ⟨#[], #[], []⟩).heap.modify 1 (layTab Rows.laid_unicode_utf8_first)).modify 2 (layTab Rows.laid_unicode_utf8_acceptRanges)) }
def zero : Value := .agg #[.int .i64 0, .string ByteArray.empty, .int .i64 0, .int .i64 0, .int .i64 0, .string ByteArray.empty, .string ByteArray.empty, .slice none 0 0]
def zeroD {H : Type} : DataW H := .agg [.agg [.lit (.int .i64 0), .lit (.string []), .lit (.int .i64 0), .lit (.int .i64 0), .lit (.int .i64 0), .lit (.string []), .lit (.string [])], .nil]
theorem laid_met (os : Os) : laidMet Tryz.prog Rows.archiveSameRow.laid ((laidWorld os).forCall (fun _ _ => 0) ⟨#[], #[zero, zero], []⟩).memory :=
  laidMet_of_run' 8 (by kernel_rfl) (by kernel_rfl)
theorem reads (os : Os) {H : Type} (enc : TypeId × Value → H) : ∃ places, DataW.whole enc Tryz.prog ((laidWorld os).forCall (fun _ _ => 0) ⟨#[], #[zero, zero], []⟩).memory Tryz.f4.params.toList Rows.archiveSameSpec.vars false #[zero, zero].toList 8 = some ([zeroD, zeroD], [], places) :=
  ⟨[], by kernel_rfl⟩

theorem lifted (os : Os) (started : os.Started) (H : Type) (enc : TypeId × Value → H) (F : Stop.Interp) :
    ReturnsInHanded {} Tryz.checked os 4 .any ((OpenSpec.ofChange Rows.archiveSameSpec).preRow enc Tryz.prog Tryz.f4 Rows.archiveSameRow.domain false Rows.archiveSameRow.laid) (((OpenSpec.ofChange Rows.archiveSameSpec).at F).post enc Tryz.prog Tryz.f4 false true false false) := by
  obtain ⟨places, hx⟩ := reads os enc
  refine returnsInHanded_of_row (C := Tryz.checked) (s := OpenSpec.ofChange Rows.archiveSameSpec) own started (by kernel_rfl) Tryz.func4
    (witness_row_at (enc := enc) (C := Tryz.checked) false (laidWorld os) #[zero, zero] rfl (by kernel_rfl) (by kernel_rfl) (by kernel_rfl)
      (OpenSpec.preRow_of_cond 8 hx (by kernel_rfl) (fun k hk => by cases hk) (by kernel_rfl) (laid_met os))) ?_
  intro W base args ds gs before hval hW _ _ _ hL _ _
  exact contract H enc W base args ds gs before hval hW

theorem said : Rows.ArchiveSameSaid :=
  OpenClaim.holds_of_cond 4 Tryz.f4 rfl rfl rfl rfl rfl rfl rfl ⟨rfl, rfl, rfl, rfl, rfl⟩ rfl rfl rfl rfl rfl (by kernel_rfl) Tryz.func4 (by kernel_rfl)
    (of_decide_eq_true (by kernel_rfl)) (by unfold Func.isWrapper; first | (rw [if_pos (by decide +kernel)]; kernel_rfl) | (rw [if_neg (by decide +kernel)]; exact ⟨rfl, rfl⟩))
    (fun os started H enc _ F => by rw [OpenClaim.pre_eq_preRow]; exact lifted os started H enc F)

theorem plain (f : FuncId) (fn : Func) (hf : Tryz.pinned.checked.prog.funcNamed "sledge/sledgelaw19.ArchiveSame" = some f) (hfn : Tryz.pinned.checked.prog.funcs[f]? = some fn) :
    false = Tryz.pinned.checked.prog.looks [] ∧ ∀ (j : Nat) t, fn.params[j]? = some t → Tryz.pinned.checked.prog.wantsStandIn t = false := by
  obtain rfl : f = 4 := Option.some.inj ((show Tryz.prog.funcNamed "sledge/sledgelaw19.ArchiveSame" = some 4 by kernel_rfl).symm.trans hf) |>.symm
  obtain rfl : fn = Tryz.f4 := (Option.some.inj (Tryz.func4.symm.trans hfn)).symm
  refine ⟨by kernel_rfl, fun j t ht => ?_⟩
  rw [Tryz.params4] at ht
  obtain rfl : t = 26 := by simpa using Array.mem_of_getElem? ht
  exact (show Tryz.prog.wantsStandIn 26 = false by kernel_rfl)

theorem card : Rows.ArchiveSameCardSaid :=
  Claim7.holds_tied_plain_at .later [] _ _ _ _ said (fun _ h => by cases h) (by kernel_rfl) (fun _ h => by cases h) archiveSame_row_tie rfl ⟨rfl, rfl⟩ (by kernel_rfl) rfl plain (by kernel_rfl)
end Go.Proofs.YtncghckcdhfhjaaGreatDoor.archiveSame
