/- The kernel's machine: operations on values. -/
import Derived.Test.YtncghckcdhfhjaaGreatDoorAh18
import Derived.Laws.Strings
set_option linter.unusedVariables false
set_option linter.unusedSimpArgs false
namespace Go.Proofs.Ah
open Go

inductive RS where
  | no
  | same (v : AV)
  | new (v : AV) (h : HS)
def OkOp (lo : Nat) (H : Heap) (s : Option (AV × Heap)) : RS → Prop
  | .no => True
  | .same v => s = some (v, H)
  | .new v h' => ∃ H', Rep h' H' ∧ s = some (v, H') ∧ Pres lo H H'

noncomputable def isInt {R : Type} (v : AV) (f : IntKind → Int → R) (d : R) : R :=
  @AV.rec (fun _ => (IntKind → Int → R) → R → R) (fun _ => Unit) (fun k n f d => f k n) (fun _ f d => d) (fun _ f d => d) (fun f d => d) (fun _ _ _ f d => d) (fun _ _ _ f d => d) (fun f d => d) (fun _ _ _ _ _ f d => d) (fun _ _ _ _ _ f d => d) (fun f d => d) (fun _ _ _ f d => d) (fun f d => d) (fun _ f d => d) (fun _ _ f d => d) (fun _ _ f d => d) (fun f d => d) () (fun _ _ _ _ => ()) v f d
noncomputable def isBool {R : Type} (v : AV) (f : Bool → R) (d : R) : R :=
  @AV.rec (fun _ => (Bool → R) → R → R) (fun _ => Unit) (fun _ _ f d => d) (fun b f d => f b) (fun _ f d => d) (fun f d => d) (fun _ _ _ f d => d) (fun _ _ _ f d => d) (fun f d => d) (fun _ _ _ _ _ f d => d) (fun _ _ _ _ _ f d => d) (fun f d => d) (fun _ _ _ f d => d) (fun f d => d) (fun _ f d => d) (fun _ _ f d => d) (fun _ _ f d => d) (fun f d => d) () (fun _ _ _ _ => ()) v f d
noncomputable def isStr {R : Type} (v : AV) (f : List UInt8 → R) (d : R) : R :=
  @AV.rec (fun _ => (List UInt8 → R) → R → R) (fun _ => Unit) (fun _ _ f d => d) (fun _ f d => d) (fun s f d => f s.data.toList) (fun f d => d) (fun _ _ _ f d => d) (fun _ _ _ f d => d) (fun f d => d) (fun _ _ _ _ _ f d => d) (fun _ _ _ _ _ f d => d) (fun f d => d) (fun _ _ _ f d => d) (fun f d => d) (fun _ f d => d) (fun _ _ f d => d) (fun _ _ f d => d) (fun f d => d) () (fun _ _ _ _ => ()) v f d
noncomputable def isNatI {R : Type} (a : Int) (f : Nat → R) (d : R) : R := @Int.rec (fun _ => (Nat → R) → R → R) (fun n f d => f n) (fun _ f d => d) a f d
noncomputable def isNat {R : Type} (v : AV) (f : IntKind → Nat → R) (d : R) : R := isInt v (fun k a => isNatI a (f k) d) d
def strOf (l : List UInt8) : ByteArray := ⟨⟨l⟩⟩
theorem strOf_data (s : ByteArray) : strOf s.data.toList = s := rfl

section
variable {lo : Nat} {H : Heap}
noncomputable def kno (k : IntKind) : Nat := @IntKind.rec (fun _ => Nat) 0 1 2 3 4 5 6 7 k
theorem kno_inj {k k' : IntKind} (h : kno k = kno k') : k = k' := by
  cases k <;> cases k' <;> first | rfl | (simp [kno] at h)
noncomputable def natR (k : IntKind) (n : Nat) : RS := natK n fun n => .same (.int k (.ofNat n))
theorem natR_eq (k : IntKind) (n : Nat) : natR k n = .same (.nat k n) := natK_eq n _
noncomputable def finI64 (n : Nat) (s : RS) : RS := sel (Nat.blt n 9223372036854775808) (natR .i64 n) s
noncomputable def finU8 (n : Nat) (s : RS) : RS := natR .u8 (Nat.mod n 256)
noncomputable def finU16 (n : Nat) (s : RS) : RS := natR .u16 (Nat.mod n 65536)
noncomputable def finU32 (n : Nat) (s : RS) : RS := natR .u32 (Nat.mod n 4294967296)
noncomputable def finU64 (n : Nat) (s : RS) : RS := natR .u64 (Nat.mod n 18446744073709551616)
def finNo (n : Nat) (s : RS) : RS := s
noncomputable def finW (k : IntKind) : Nat → RS → RS := @IntKind.rec (fun _ => Nat → RS → RS) finNo finNo finNo finI64 finU8 finU16 finU32 finU64 k
theorem finW_ok {k : IntKind} {n : Nat} {s : Option (AV × Heap)} {slow : RS} (hs : s = some (.int k (k.wrap (n : Int)), H)) (h : OkOp lo H s slow) : OkOp lo H s (finW k n slow) := by
  cases k
  case i64 =>
    show OkOp lo H s (sel _ _ _)
    rw [sel_blt]
    split
    · rename_i hn
      rw [natR_eq]; show s = _
      rw [hs, wrap_i64 hn]; rfl
    · exact h
  case u8 => show OkOp lo H s (natR .u8 _); rw [natR_eq]; show s = _; rw [hs, wrap_u8]; rfl
  case u16 => show OkOp lo H s (natR .u16 _); rw [natR_eq]; show s = _; rw [hs, wrap_u16]; rfl
  case u32 => show OkOp lo H s (natR .u32 _); rw [natR_eq]; show s = _; rw [hs, wrap_u32]; rfl
  case u64 => show OkOp lo H s (natR .u64 _); rw [natR_eq]; show s = _; rw [hs, wrap_u64]; rfl
  all_goals exact h

def slowB (op : BinOp) (k k' : IntKind) (a b : Int) : RS := match binA op (.int k a) (.int k' b) with
  | some v => .same v
  | none => .no
theorem slowB_ok (op : BinOp) (k k' : IntKind) (a b : Int) : OkOp lo H (same H (binA op (.int k a) (.int k' b))) (slowB op k k' a b) := by
  unfold slowB
  cases binA op (.int k a) (.int k' b) <;> first | trivial | rfl
noncomputable def eqKind (k k' : IntKind) (x y : RS) : RS := sel (Nat.beq (kno k) (kno k')) x y
theorem eqKind_ok {k k' : IntKind} {x y : RS} {s : Option (AV × Heap)} (h : k = k' → OkOp lo H s x) (h' : OkOp lo H s y) : OkOp lo H s (eqKind k k' x y) := by
  unfold eqKind
  rw [sel_beq]
  split
  · rename_i e; exact h (kno_inj e)
  · exact h'
noncomputable def big (k : IntKind) : Nat := @IntKind.rec (fun _ => Nat) 0 0 0 9223372036854775808 256 65536 4294967296 18446744073709551616 k
noncomputable def bitsK (k : IntKind) : Nat := @IntKind.rec (fun _ => Nat) 8 16 32 64 8 16 32 64 k
theorem bitsK_eq (k : IntKind) : bitsK k = k.bits := by cases k <;> rfl
theorem big_le (k : IntKind) : big k ≤ 2 ^ k.bits := by cases k <;> simp [big, IntKind.bits]
theorem big_pow (k : IntKind) : big k = 0 ∨ ∃ m, big k = 2 ^ m := by
  cases k
  case i64 => exact .inr ⟨63, rfl⟩
  case u8 => exact .inr ⟨8, rfl⟩
  case u16 => exact .inr ⟨16, rfl⟩
  case u32 => exact .inr ⟨32, rfl⟩
  case u64 => exact .inr ⟨64, rfl⟩
  all_goals exact .inl rfl
theorem wrap_big {k : IntKind} {n : Nat} (h : n < big k) : k.wrap (n : Int) = n := by
  cases k
  case i64 => exact wrap_i64 h
  case u8 => rw [wrap_u8, show n % 256 = n from Nat.mod_eq_of_lt h]
  case u16 => rw [wrap_u16, show n % 65536 = n from Nat.mod_eq_of_lt h]
  case u32 => rw [wrap_u32, show n % 4294967296 = n from Nat.mod_eq_of_lt h]
  case u64 => rw [wrap_u64, show n % 18446744073709551616 = n from Nat.mod_eq_of_lt h]
  all_goals exact absurd h (Nat.not_lt_zero _)
noncomputable def bitB (op : BinOp) (f : Nat → Nat → Nat) (k k' : IntKind) (a b : Nat) : RS :=
  eqKind k k' (sel (Nat.blt a (big k)) (sel (Nat.blt b (big k)) (natR k (f a b)) (slowB op k k' a b)) (slowB op k k' a b)) (slowB op k k' a b)
theorem bit_ok {op : BinOp} {f : Nat → Nat → Nat} {k k' : IntKind} {a b : Nat} (hb : ∀ k a b, a < big k → b < big k → binA op (.int k (a : Int)) (.int k (b : Int)) = some (.nat k (f a b))) :
    OkOp lo H (same H (binA op (.int k (.ofNat a)) (.int k' (.ofNat b)))) (bitB op f k k' a b) := by
  refine eqKind_ok ?_ (slowB_ok _ _ _ _ _)
  rintro rfl
  rw [sel_blt, sel_blt]
  split
  · rename_i ha
    split
    · rename_i hb'
      rw [natR_eq]
      show same H (binA op (.int k (a : Int)) (.int k (b : Int))) = _
      rw [hb k a b ha hb']; rfl
    · exact slowB_ok _ _ _ _ _
  · exact slowB_ok _ _ _ _ _
theorem and_big (k : IntKind) (a b : Nat) (ha : a < big k) (hb : b < big k) : binA .and (.int k (a : Int)) (.int k (b : Int)) = some (.nat k (Nat.land a b)) := by
  have h : a &&& b < big k := Nat.lt_of_le_of_lt Nat.and_le_left ha
  simp only [binA, if_true, bv_and]
  rw [Nat.mod_eq_of_lt (Nat.lt_of_lt_of_le h (big_le k)), wrap_big h]; rfl
theorem or_big (k : IntKind) (a b : Nat) (ha : a < big k) (hb : b < big k) : binA .or (.int k (a : Int)) (.int k (b : Int)) = some (.nat k (Nat.lor a b)) := by
  have h : a ||| b < big k := by
    rcases big_pow k with e | ⟨m, e⟩
    · omega
    · rw [e] at ha hb ⊢; exact Nat.or_lt_two_pow ha hb
  simp only [binA, if_true, bv_or]
  rw [Nat.mod_eq_of_lt (Nat.lt_of_lt_of_le h (big_le k)), wrap_big h]; rfl
theorem xor_big (k : IntKind) (a b : Nat) (ha : a < big k) (hb : b < big k) : binA .xor (.int k (a : Int)) (.int k (b : Int)) = some (.nat k (Nat.xor a b)) := by
  have h : a ^^^ b < big k := by
    rcases big_pow k with e | ⟨m, e⟩
    · omega
    · rw [e] at ha hb ⊢; exact Nat.xor_lt_two_pow ha hb
  simp only [binA, if_true, bv_xor]
  rw [Nat.mod_eq_of_lt (Nat.lt_of_lt_of_le h (big_le k)), wrap_big h]; rfl
noncomputable def nAdd (k k' : IntKind) (a b : Nat) : RS := eqKind k k' (finW k (Nat.add a b) (slowB .add k k' a b)) (slowB .add k k' a b)
noncomputable def nMul (k k' : IntKind) (a b : Nat) : RS := eqKind k k' (finW k (Nat.mul a b) (slowB .mul k k' a b)) (slowB .mul k k' a b)
noncomputable def nSub (k k' : IntKind) (a b : Nat) : RS := eqKind k k' (sel (Nat.ble b a) (finW k (Nat.sub a b) (slowB .sub k k' a b)) (slowB .sub k k' a b)) (slowB .sub k k' a b)
noncomputable def nQuo (k k' : IntKind) (a b : Nat) : RS := eqKind k k' (sel (Nat.beq b 0) (slowB .quo k k' a b) (finW k (Nat.div a b) (slowB .quo k k' a b))) (slowB .quo k k' a b)
noncomputable def nRem (k k' : IntKind) (a b : Nat) : RS := eqKind k k' (sel (Nat.beq b 0) (slowB .rem k k' a b) (natR k (Nat.mod a b))) (slowB .rem k k' a b)
noncomputable def nShl (k k' : IntKind) (a b : Nat) : RS := sel (Nat.ble b (bitsK k)) (finW k (Nat.shiftLeft a b) (slowB .shl k k' a b)) (slowB .shl k k' a b)
noncomputable def nShr (k k' : IntKind) (a b : Nat) : RS := sel (Nat.ble b (bitsK k)) (natR k (Nat.shiftRight a b)) (slowB .shr k k' a b)
noncomputable def boolR (b : Bool) : RS := sel b (.same (.bool true)) (.same (.bool false))
theorem boolR_eq (b : Bool) : boolR b = .same (.bool b) := by cases b <;> rfl
noncomputable def nEql (k k' : IntKind) (a b : Nat) : RS := eqKind k k' (boolR (Nat.beq a b)) .no
noncomputable def nNeq (k k' : IntKind) (a b : Nat) : RS := eqKind k k' (sel (Nat.beq a b) (.same (.bool false)) (.same (.bool true))) .no
noncomputable def nLss (k k' : IntKind) (a b : Nat) : RS := eqKind k k' (boolR (Nat.blt a b)) .no
noncomputable def nLeq (k k' : IntKind) (a b : Nat) : RS := eqKind k k' (boolR (Nat.ble a b)) .no
noncomputable def nGtr (k k' : IntKind) (a b : Nat) : RS := eqKind k k' (boolR (Nat.blt b a)) .no
noncomputable def nGeq (k k' : IntKind) (a b : Nat) : RS := eqKind k k' (boolR (Nat.ble b a)) .no
noncomputable def nAnd := bitB .and Nat.land
noncomputable def nOr := bitB .or Nat.lor
noncomputable def nXor := bitB .xor Nat.xor
def nAndNot (k k' : IntKind) (a b : Nat) : RS := slowB .andNot k k' a b
noncomputable def natBin (op : BinOp) : IntKind → IntKind → Nat → Nat → RS := @BinOp.rec (fun _ => IntKind → IntKind → Nat → Nat → RS) nAdd nSub nMul nQuo nRem nAnd nOr nXor nShl nShr nAndNot nEql nNeq nLss nLeq nGtr nGeq op
theorem ofNat_cast (n : Nat) : Int.ofNat n = (n : Int) := rfl
theorem natBin_ok (op : BinOp) (k k' : IntKind) (a b : Nat) : OkOp lo H (same H (binA op (.int k (.ofNat a)) (.int k' (.ofNat b)))) (natBin op k k' a b) := by
  cases op
  case add =>
    refine eqKind_ok ?_ (slowB_ok _ _ _ _ _)
    rintro rfl
    refine finW_ok ?_ (slowB_ok _ _ _ _ _)
    simp only [binA, if_true, same, ofNat_cast, ← Int.natCast_add]; rfl
  case mul =>
    refine eqKind_ok ?_ (slowB_ok _ _ _ _ _)
    rintro rfl
    refine finW_ok ?_ (slowB_ok _ _ _ _ _)
    simp only [binA, if_true, same, ofNat_cast, ← Int.natCast_mul]; rfl
  case sub =>
    refine eqKind_ok ?_ (slowB_ok _ _ _ _ _)
    rintro rfl
    rw [sel_ble]
    split
    · rename_i hba
      refine finW_ok ?_ (slowB_ok _ _ _ _ _)
      simp only [binA, if_true, same, ofNat_cast]
      rw [← Int.ofNat_sub hba]; rfl
    · exact slowB_ok _ _ _ _ _
  case quo =>
    refine eqKind_ok ?_ (slowB_ok _ _ _ _ _)
    rintro rfl
    rw [sel_beq]
    split
    · exact slowB_ok _ _ _ _ _
    · rename_i hb
      refine finW_ok ?_ (slowB_ok _ _ _ _ _)
      have h1 : ((b : Int) = 0) = False := by simp [hb]
      simp only [binA, if_true, same, ofNat_cast, h1, if_false]
      rfl
  case rem =>
    refine eqKind_ok ?_ (slowB_ok _ _ _ _ _)
    rintro rfl
    rw [sel_beq]
    split
    · exact slowB_ok _ _ _ _ _
    · rename_i hb
      rw [natR_eq]
      have h1 : ((b : Int) = 0) = False := by simp [hb]
      show same H _ = _
      simp only [binA, if_true, same, ofNat_cast, h1, if_false]
      rfl
  case shl =>
    show OkOp lo H _ (sel _ _ _)
    rw [sel_ble, bitsK_eq]
    split
    · rename_i hb
      refine finW_ok ?_ (slowB_ok _ _ _ _ _)
      have h1 : ((b : Int) < 0) = False := neg_nat b
      simp only [binA, if_true, same, ofNat_cast, h1, if_false, Int.toNat_natCast, Nat.min_eq_left hb]
      have : (a : Int) * 2 ^ b = ((Nat.shiftLeft a b : Nat) : Int) := by
        show _ = ((a <<< b : Nat) : Int)
        rw [Nat.shiftLeft_eq]; simp
      rw [this]
    · exact slowB_ok _ _ _ _ _
  case shr =>
    show OkOp lo H _ (sel _ _ _)
    rw [sel_ble, bitsK_eq]
    split
    · rename_i hb
      rw [natR_eq]
      show same H (binA .shr (.nat k a) (.nat k' b)) = _
      rw [shr_nat hb]; rfl
    · exact slowB_ok _ _ _ _ _
  case and => exact bit_ok and_big
  case or => exact bit_ok or_big
  case xor => exact bit_ok xor_big
  case andNot => exact slowB_ok _ _ _ _ _
  all_goals
    refine eqKind_ok ?_ trivial
    rintro rfl
    first
      | rw [boolR_eq]
      | skip
  case eql =>
    show same H (binA .eql (.nat k a) (.nat k b)) = _
    rw [eql_nat]
    by_cases h : a = b
    · subst h; simp [same]
    · have : Nat.beq a b = false := by rw [Bool.eq_false_iff, Ne, beq_nat]; exact h
      rw [this]; simp [same, h]
  case neq =>
    rw [sel_beq]
    split
    · rename_i h; subst h
      show same H (binA .neq (.nat k a) (.nat k a)) = _
      rw [neq_nat]; simp [same]
    · rename_i h
      show same H (binA .neq (.nat k a) (.nat k b)) = _
      rw [neq_nat]; simp [same, h]
  case lss =>
    show same H (binA .lss (.nat k a) (.nat k b)) = _
    rw [lss_nat, show Nat.blt a b = decide (a < b) from by rw [Bool.eq_iff_iff, blt_nat]; simp]; rfl
  case leq =>
    show same H (binA .leq (.nat k a) (.nat k b)) = _
    rw [leq_nat, show Nat.ble a b = decide (a ≤ b) from by rw [Bool.eq_iff_iff, ble_nat]; simp]; rfl
  case gtr =>
    show same H (binA .gtr (.nat k a) (.nat k b)) = _
    rw [gtr_nat, show Nat.blt b a = decide (b < a) from by rw [Bool.eq_iff_iff, blt_nat]; simp]; rfl
  case geq =>
    show same H (binA .geq (.nat k a) (.nat k b)) = _
    rw [geq_nat, show Nat.ble b a = decide (b ≤ a) from by rw [Bool.eq_iff_iff, ble_nat]; simp]; rfl

/-! #### texts -/
noncomputable def lenF {α : Type} (l : List α) : Nat := @List.rec α (fun _ => Nat → Nat) (fun n => n) (fun _ _ ih n => natK (Nat.succ n) ih) l 0
theorem lenF_aux {α : Type} : ∀ (l : List α) (n : Nat), @List.rec α (fun _ => Nat → Nat) (fun n => n) (fun _ _ ih n => natK (Nat.succ n) ih) l n = n + l.length
  | [], n => rfl
  | x :: r, n => by
    show natK (Nat.succ n) _ = _
    rw [natK_eq]
    refine (lenF_aux r (n + 1)).trans ?_
    simp; omega
theorem lenF_eq {α : Type} (l : List α) : lenF l = l.length := by
  refine (lenF_aux l 0).trans ?_
  simp
noncomputable def beqB (a : List UInt8) : List UInt8 → Bool :=
  @List.rec UInt8 (fun _ => List UInt8 → Bool) (fun b => @List.rec UInt8 (fun _ => Bool) true (fun _ _ _ => false) b)
    (fun x _ ih b => @List.rec UInt8 (fun _ => Bool) false (fun y s _ => sel (Nat.beq x.toNat y.toNat) (ih s) false) b) a
theorem beqB_eq : ∀ (a b : List UInt8), beqB a b = (a == b)
  | [], [] => rfl
  | [], y :: s => rfl
  | x :: r, [] => rfl
  | x :: r, y :: s => by
    show sel (Nat.beq x.toNat y.toNat) (beqB r s) false = _
    rw [sel_beq, beqB_eq r s]
    by_cases h : x = y
    · subst h; simp
    · have : ¬ x.toNat = y.toNat := fun e => h (UInt8.toNat_inj.1 e)
      rw [if_neg this]; simp [h]
def strSlow (op : BinOp) (a b : List UInt8) : RS := match op with
  | .lss => .same (.bool (Op.bytesLess a b))
  | .leq => .same (.bool (Op.bytesLess a b || a == b))
  | .gtr => .same (.bool !(Op.bytesLess a b || a == b))
  | .geq => .same (.bool !(Op.bytesLess a b))
  | _ => .no
noncomputable def strAdd (a b : List UInt8) : RS := sel (Nat.ble (Nat.add (lenF a) (lenF b)) 9223372036854775807) (.same (.str (strOf (a ++ b)))) .no
noncomputable def strEql (a b : List UInt8) : RS := boolR (beqB a b)
noncomputable def strNeq (a b : List UInt8) : RS := sel (beqB a b) (.same (.bool false)) (.same (.bool true))
noncomputable def strBin (op : BinOp) : List UInt8 → List UInt8 → RS := @BinOp.rec (fun _ => List UInt8 → List UInt8 → RS) strAdd (strSlow .sub) (strSlow .mul) (strSlow .quo) (strSlow .rem) (strSlow .and) (strSlow .or) (strSlow .xor) (strSlow .shl) (strSlow .shr) (strSlow .andNot) strEql strNeq (strSlow .lss) (strSlow .leq) (strSlow .gtr) (strSlow .geq) op
theorem strOf_app (a b : ByteArray) : strOf (a.data.toList ++ b.data.toList) = a ++ b := by
  apply ByteArray.ext
  apply Array.ext'
  simp [strOf]
theorem strBin_ok (op : BinOp) (a b : ByteArray) : OkOp lo H (same H (binA op (.str a) (.str b))) (strBin op a.data.toList b.data.toList) := by
  cases op
  case add =>
    show OkOp lo H _ (sel _ _ _)
    rw [sel_ble, lenF_eq, lenF_eq]
    have ha : ∀ s : ByteArray, s.data.toList.length = s.size := fun s => Array.length_toList
    simp only [Nat.add_eq, ha]
    split
    · rename_i h
      show same H _ = _
      simp only [binA, if_pos h, same, strOf_app]
    · trivial
  case eql =>
    show OkOp lo H _ (boolR _)
    rw [boolR_eq, beqB_eq]
    show same H _ = _
    simp only [binA, same, ByteArray.toList_eq]
  case neq =>
    show OkOp lo H _ (sel _ _ _)
    rw [sel_eq, beqB_eq]
    split <;> rename_i h <;> (show same H _ = _; simp only [binA, same, ByteArray.toList_eq, h, Bool.not_true]; try rfl)
  all_goals first
    | trivial
    | (show same H _ = _; simp only [binA, same, ByteArray.toList_eq]; done)
noncomputable def binF (op : BinOp) (x y : AV) : RS :=
  isInt x (fun k a => isInt y (fun k' b => isNatI a (fun m => isNatI b (fun n => natBin op k k' m n) (slowB op k k' a b)) (slowB op k k' a b)) .no)
    (isStr x (fun s => isStr y (fun t => strBin op s t) .no) .no)
theorem binF_ok (op : BinOp) (x y : AV) : OkOp lo H (same H (binA op x y)) (binF op x y) := by
  cases x <;> try trivial
  case int k a =>
    cases y <;> try trivial
    case int k' b =>
      cases a
      · cases b
        · exact natBin_ok _ _ _ _ _
        · exact slowB_ok _ _ _ _ _
      · exact slowB_ok _ _ _ _ _
  case str s =>
    cases y <;> try trivial
    case str t => exact strBin_ok op s t
noncomputable def toIntF (k : IntKind) (x : AV) : RS := isInt x (fun _ a => isNatI a (fun n => finW k n (.same (.int k (k.wrap a)))) (.same (.int k (k.wrap a)))) .no
theorem toIntF_ok (k : IntKind) (x : AV) : OkOp lo H (toIntA k x H) (toIntF k x) := by
  cases x <;> try trivial
  case int k' a =>
    cases a
    · exact finW_ok rfl rfl
    · rfl
noncomputable def idxF (x i : AV) : RS := isStr x (fun s => isNat i (fun _ j => @Option.rec UInt8 (fun _ => RS) .no (fun b => natR .u8 b.toNat) (nth s j)) .no) .no
theorem getE_data (s : ByteArray) (j : Nat) : s[j]? = s.data.toList[j]? := by
  by_cases h : j < s.size
  · have : j < s.data.toList.length := by rw [Array.length_toList]; exact h
    rw [getElem?_pos s j h, List.getElem?_eq_getElem this]; rfl
  · have : ¬ j < s.data.toList.length := by rw [Array.length_toList]; exact h
    rw [getElem?_neg s j h, List.getElem?_eq_none (by omega)]
theorem idxF_ok (x i : AV) : OkOp lo H (idxSA x i H) (idxF x i) := by
  cases x <;> try trivial
  case str s =>
    cases i <;> try trivial
    case int k a =>
      cases a <;> try trivial
      case ofNat j =>
        show OkOp lo H _ (@Option.rec UInt8 (fun _ => RS) .no (fun b => natR .u8 b.toNat) (nth s.data.toList j))
        rw [nth_eq, ← getE_data]
        cases hb : s[j]? with
        | none => trivial
        | some b =>
          have := idxSA_nat (H := H) (k := k) hb
          show OkOp lo H _ (natR .u8 b.toNat)
          rw [natR_eq]; exact this
end
end Go.Proofs.Ah

