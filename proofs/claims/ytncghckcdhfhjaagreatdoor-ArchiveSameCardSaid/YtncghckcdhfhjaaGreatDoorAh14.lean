/- The operations' rules for the simplifier. -/
import Derived.Test.YtncghckcdhfhjaaGreatDoorAh13
set_option linter.unusedVariables false
set_option linter.unusedSimpArgs false
namespace Go.Proofs.Ah
open Go

theorem wrap_i64i {n : Int} (h0 : -9223372036854775808 ≤ n) (h : n < 9223372036854775808) : IntKind.i64.wrap n = n := by
  unfold IntKind.wrap
  simp [IntKind.bits, IntKind.signed]
  split <;> omega
theorem wrap_i64 {n : Nat} (h : n < 9223372036854775808) : IntKind.i64.wrap (n : Int) = (n : Int) := wrap_i64i (by omega) (by omega)
theorem wrap_u8 {n : Nat} : IntKind.u8.wrap (n : Int) = ((n % 256 : Nat) : Int) := by
  simp [IntKind.wrap, IntKind.bits, IntKind.signed]
theorem wrap_u16 {n : Nat} : IntKind.u16.wrap (n : Int) = ((n % 65536 : Nat) : Int) := by
  simp [IntKind.wrap, IntKind.bits, IntKind.signed]
theorem wrap_u32 {n : Nat} : IntKind.u32.wrap (n : Int) = ((n % 4294967296 : Nat) : Int) := by
  simp [IntKind.wrap, IntKind.bits, IntKind.signed]
theorem wrap_u64 {n : Nat} : IntKind.u64.wrap (n : Int) = ((n % 18446744073709551616 : Nat) : Int) := by
  simp [IntKind.wrap, IntKind.bits, IntKind.signed]

section
variable {fr : AFrame} {H : Heap} {a b s : Nat} {k k' : IntKind}

/-! #### arithmetic -/
theorem add_i64 (h : a + b < 9223372036854775808) : binA .add (.nat .i64 a) (.nat .i64 b) = some (.nat .i64 (a + b)) := by
  have := wrap_i64 h
  simp only [binA, AV.nat, if_true]; rw [← Int.natCast_add, this]
theorem add_u8 : binA .add (.nat .u8 a) (.nat .u8 b) = some (.nat .u8 ((a + b) % 256)) := by
  simp only [binA, AV.nat, if_true]; rw [← Int.natCast_add, wrap_u8]
theorem add_u32 : binA .add (.nat .u32 a) (.nat .u32 b) = some (.nat .u32 ((a + b) % 4294967296)) := by
  simp only [binA, AV.nat, if_true]; rw [← Int.natCast_add, wrap_u32]
theorem add_u64 : binA .add (.nat .u64 a) (.nat .u64 b) = some (.nat .u64 ((a + b) % 18446744073709551616)) := by
  simp only [binA, AV.nat, if_true]; rw [← Int.natCast_add, wrap_u64]
theorem mul_i64 (h : a * b < 9223372036854775808) : binA .mul (.nat .i64 a) (.nat .i64 b) = some (.nat .i64 (a * b)) := by
  have := wrap_i64 h
  simp only [binA, AV.nat, if_true]; rw [← Int.natCast_mul, this]
theorem mul_u32 : binA .mul (.nat .u32 a) (.nat .u32 b) = some (.nat .u32 ((a * b) % 4294967296)) := by
  simp only [binA, AV.nat, if_true]; rw [← Int.natCast_mul, wrap_u32]
theorem mul_u64 : binA .mul (.nat .u64 a) (.nat .u64 b) = some (.nat .u64 ((a * b) % 18446744073709551616)) := by
  simp only [binA, AV.nat, if_true]; rw [← Int.natCast_mul, wrap_u64]
theorem sub_i64 (h : b ≤ a) (h' : a < 9223372036854775808) : binA .sub (.nat .i64 a) (.nat .i64 b) = some (.nat .i64 (a - b)) := by
  have := wrap_i64 (n := a - b) (by omega)
  simp only [binA, AV.nat, if_true]; rw [← Int.ofNat_sub h, this]
theorem sub_u32 (h : b ≤ a) : binA .sub (.nat .u32 a) (.nat .u32 b) = some (.nat .u32 ((a - b) % 4294967296)) := by
  simp only [binA, AV.nat, if_true]; rw [← Int.ofNat_sub h, wrap_u32]
theorem sub_u64 (h : b ≤ a) : binA .sub (.nat .u64 a) (.nat .u64 b) = some (.nat .u64 ((a - b) % 18446744073709551616)) := by
  simp only [binA, AV.nat, if_true]; rw [← Int.ofNat_sub h, wrap_u64]
theorem sub_u8 (h : b ≤ a) : binA .sub (.nat .u8 a) (.nat .u8 b) = some (.nat .u8 ((a - b) % 256)) := by
  simp only [binA, AV.nat, if_true]; rw [← Int.ofNat_sub h, wrap_u8]
theorem quo_i64 (h : b ≠ 0) (h' : a < 9223372036854775808) : binA .quo (.nat .i64 a) (.nat .i64 b) = some (.nat .i64 (a / b)) := by
  have h1 : ((b : Int) = 0) = False := by simp [h]
  have := wrap_i64 (n := a / b) (Nat.lt_of_le_of_lt (Nat.div_le_self a b) h')
  simp only [binA, AV.nat, if_true, h1, if_false]
  rw [show ((a : Int).tdiv b) = ((a / b : Nat) : Int) from rfl, this]
theorem quo_u64 (h : b ≠ 0) : binA .quo (.nat .u64 a) (.nat .u64 b) = some (.nat .u64 ((a / b) % 18446744073709551616)) := by
  have h1 : ((b : Int) = 0) = False := by simp [h]
  simp only [binA, AV.nat, if_true, h1, if_false]
  rw [show ((a : Int).tdiv b) = ((a / b : Nat) : Int) from rfl, wrap_u64]
theorem rem_nat (h : b ≠ 0) : binA .rem (.nat k a) (.nat k b) = some (.nat k (a % b)) := by
  have h1 : ((b : Int) = 0) = False := by simp [h]
  simp only [binA, AV.nat, if_true, h1, if_false]
  rfl
theorem toNat_ofInt (n : Nat) (a : Nat) : (BitVec.ofInt n (a : Int)).toNat = a % 2 ^ n := by simp
theorem bv_or (m a b : Nat) : (BitVec.ofInt m (a : Int) ||| BitVec.ofInt m (b : Int)).toNat = (a ||| b) % 2 ^ m := by
  rw [BitVec.toNat_or, toNat_ofInt, toNat_ofInt, Nat.or_mod_two_pow]
theorem bv_and (m a b : Nat) : (BitVec.ofInt m (a : Int) &&& BitVec.ofInt m (b : Int)).toNat = (a &&& b) % 2 ^ m := by
  rw [BitVec.toNat_and, toNat_ofInt, toNat_ofInt, Nat.and_mod_two_pow]
theorem bv_xor (m a b : Nat) : (BitVec.ofInt m (a : Int) ^^^ BitVec.ofInt m (b : Int)).toNat = (a ^^^ b) % 2 ^ m := by
  rw [BitVec.toNat_xor, toNat_ofInt, toNat_ofInt, Nat.xor_mod_two_pow]
theorem or_u32 : binA .or (.nat .u32 a) (.nat .u32 b) = some (.nat .u32 ((a ||| b) % 4294967296)) := by
  simp only [binA, AV.nat, if_true, bv_or]
  rw [wrap_u32]; simp [IntKind.bits]
theorem and_u32 : binA .and (.nat .u32 a) (.nat .u32 b) = some (.nat .u32 ((a &&& b) % 4294967296)) := by
  simp only [binA, AV.nat, if_true, bv_and]
  rw [wrap_u32]; simp [IntKind.bits]
theorem xor_u32 : binA .xor (.nat .u32 a) (.nat .u32 b) = some (.nat .u32 ((a ^^^ b) % 4294967296)) := by
  simp only [binA, AV.nat, if_true, bv_xor]
  rw [wrap_u32]; simp [IntKind.bits]
theorem or_u64 : binA .or (.nat .u64 a) (.nat .u64 b) = some (.nat .u64 ((a ||| b) % 18446744073709551616)) := by
  simp only [binA, AV.nat, if_true, bv_or]
  rw [wrap_u64]; simp [IntKind.bits]
theorem and_u64 : binA .and (.nat .u64 a) (.nat .u64 b) = some (.nat .u64 ((a &&& b) % 18446744073709551616)) := by
  simp only [binA, AV.nat, if_true, bv_and]
  rw [wrap_u64]; simp [IntKind.bits]
theorem xor_u64 : binA .xor (.nat .u64 a) (.nat .u64 b) = some (.nat .u64 ((a ^^^ b) % 18446744073709551616)) := by
  simp only [binA, AV.nat, if_true, bv_xor]
  rw [wrap_u64]; simp [IntKind.bits]
theorem or_u8 : binA .or (.nat .u8 a) (.nat .u8 b) = some (.nat .u8 ((a ||| b) % 256)) := by
  simp only [binA, AV.nat, if_true, bv_or]
  rw [wrap_u8]; simp [IntKind.bits]
theorem and_u8 : binA .and (.nat .u8 a) (.nat .u8 b) = some (.nat .u8 ((a &&& b) % 256)) := by
  simp only [binA, AV.nat, if_true, bv_and]
  rw [wrap_u8]; simp [IntKind.bits]
theorem xor_u8 : binA .xor (.nat .u8 a) (.nat .u8 b) = some (.nat .u8 ((a ^^^ b) % 256)) := by
  simp only [binA, AV.nat, if_true, bv_xor]
  rw [wrap_u8]; simp [IntKind.bits]
theorem and_i64 (h : a < 9223372036854775808) (h' : b < 9223372036854775808) : binA .and (.nat .i64 a) (.nat .i64 b) = some (.nat .i64 (a &&& b)) := by
  have := wrap_i64 (n := a &&& b) (Nat.lt_of_le_of_lt Nat.and_le_left h)
  simp only [binA, AV.nat, if_true, bv_and]
  rw [Nat.mod_eq_of_lt (by simp only [IntKind.bits]; first | exact Nat.lt_of_le_of_lt Nat.and_le_left (by omega) | exact Nat.or_lt_two_pow (by omega) (by omega) | exact Nat.xor_lt_two_pow (by omega) (by omega)), this]
theorem or_i64 (h : a < 9223372036854775808) (h' : b < 9223372036854775808) : binA .or (.nat .i64 a) (.nat .i64 b) = some (.nat .i64 (a ||| b)) := by
  have := wrap_i64 (n := a ||| b) (Nat.or_lt_two_pow (n := 63) h h')
  simp only [binA, AV.nat, if_true, bv_or]
  rw [Nat.mod_eq_of_lt (by simp only [IntKind.bits]; first | exact Nat.lt_of_le_of_lt Nat.and_le_left (by omega) | exact Nat.or_lt_two_pow (by omega) (by omega) | exact Nat.xor_lt_two_pow (by omega) (by omega)), this]
theorem xor_i64 (h : a < 9223372036854775808) (h' : b < 9223372036854775808) : binA .xor (.nat .i64 a) (.nat .i64 b) = some (.nat .i64 (a ^^^ b)) := by
  have := wrap_i64 (n := a ^^^ b) (Nat.xor_lt_two_pow (n := 63) h h')
  simp only [binA, AV.nat, if_true, bv_xor]
  rw [Nat.mod_eq_of_lt (by simp only [IntKind.bits]; first | exact Nat.lt_of_le_of_lt Nat.and_le_left (by omega) | exact Nat.or_lt_two_pow (by omega) (by omega) | exact Nat.xor_lt_two_pow (by omega) (by omega)), this]
theorem neg_nat (n : Nat) : ((n : Int) < 0) = False := by simp
theorem mod_shift (a s t m : Nat) (h : s = t ∨ (m ≤ s ∧ m ≤ t)) : (a * 2 ^ s) % 2 ^ m = (a * 2 ^ t) % 2 ^ m := by
  rcases h with rfl | ⟨h1, h2⟩
  · rfl
  · obtain ⟨c, rfl⟩ := Nat.le.dest h1
    obtain ⟨d, rfl⟩ := Nat.le.dest h2
    rw [Nat.pow_add, Nat.pow_add, Nat.mul_left_comm, Nat.mul_left_comm a, Nat.mul_mod_right, Nat.mul_mod_right]
theorem shl_u32 : binA .shl (.nat .u32 a) (.nat k s) = some (.nat .u32 ((a <<< s) % 4294967296)) := by
  simp only [binA, AV.nat, IntKind.bits, neg_nat, if_false, Int.toNat_natCast]
  have : (a : Int) * 2 ^ min s 32 = ((a * 2 ^ min s 32 : Nat) : Int) := by simp
  rw [this, wrap_u32, Nat.shiftLeft_eq, show (4294967296 : Nat) = 2 ^ 32 from rfl, mod_shift a (min s 32) s 32 (by omega)]
theorem shl_u64 : binA .shl (.nat .u64 a) (.nat k s) = some (.nat .u64 ((a <<< s) % 18446744073709551616)) := by
  simp only [binA, AV.nat, IntKind.bits, neg_nat, if_false, Int.toNat_natCast]
  have : (a : Int) * 2 ^ min s 64 = ((a * 2 ^ min s 64 : Nat) : Int) := by simp
  rw [this, wrap_u64, Nat.shiftLeft_eq, show (18446744073709551616 : Nat) = 2 ^ 64 from rfl, mod_shift a (min s 64) s 64 (by omega)]
theorem shl_u8 : binA .shl (.nat .u8 a) (.nat k s) = some (.nat .u8 ((a <<< s) % 256)) := by
  simp only [binA, AV.nat, IntKind.bits, neg_nat, if_false, Int.toNat_natCast]
  have : (a : Int) * 2 ^ min s 8 = ((a * 2 ^ min s 8 : Nat) : Int) := by simp
  rw [this, wrap_u8, Nat.shiftLeft_eq, show (256 : Nat) = 2 ^ 8 from rfl, mod_shift a (min s 8) s 8 (by omega)]
theorem shl_i64 (h' : s ≤ 64) (h : a <<< s < 9223372036854775808) : binA .shl (.nat .i64 a) (.nat k s) = some (.nat .i64 (a <<< s)) := by
  simp only [binA, AV.nat, IntKind.bits, neg_nat, if_false, Int.toNat_natCast]
  have e : min s 64 = s := by omega
  have : (a : Int) * 2 ^ s = ((a <<< s : Nat) : Int) := by rw [Nat.shiftLeft_eq]; simp
  rw [e, this, wrap_i64 h]
theorem shr_nat (h : s ≤ k.bits) : binA .shr (.nat k a) (.nat k' s) = some (.nat k (a >>> s)) := by
  simp only [binA, AV.nat, neg_nat, if_false, Int.toNat_natCast]
  have e : min s k.bits = s := by omega
  have : (a : Int).fdiv (2 ^ s) = ((a >>> s : Nat) : Int) := by
    rw [Nat.shiftRight_eq_div_pow, Int.fdiv_eq_ediv_of_nonneg _ (by exact Int.le_of_lt (Int.pow_pos (by decide)))]
    simp
  rw [e, this]
theorem lss_nat : binA .lss (.nat k a) (.nat k b) = some (.bool (decide (a < b))) := by simp [binA, AV.nat]
theorem leq_nat : binA .leq (.nat k a) (.nat k b) = some (.bool (decide (a ≤ b))) := by simp [binA, AV.nat]
theorem gtr_nat : binA .gtr (.nat k a) (.nat k b) = some (.bool (decide (b < a))) := by simp [binA, AV.nat]
theorem geq_nat : binA .geq (.nat k a) (.nat k b) = some (.bool (decide (b ≤ a))) := by simp [binA, AV.nat]
theorem eql_nat : binA .eql (.nat k a) (.nat k b) = some (.bool (decide (a = b))) := by
  simp only [binA, AV.nat, if_true, Option.some.injEq, AV.bool.injEq]
  by_cases h : a = b
  · simp [h]
  · have : ¬ ((a : Int) = b) := by omega
    simp [h, this]
theorem neq_nat : binA .neq (.nat k a) (.nat k b) = some (.bool (!decide (a = b))) := by
  simp only [binA, AV.nat, if_true, Option.some.injEq, AV.bool.injEq]
  by_cases h : a = b
  · simp [h]
  · have : ¬ ((a : Int) = b) := by omega
    simp [h, this]
theorem same_some (v : AV) : same H (some v) = some (v, H) := _root_.id rfl
theorem not_bool (b : Bool) : unA .not (.bool b) = some (.bool !b) := _root_.id rfl

/-! #### operations on their arguments -/
theorem opS_mv (x : Arg) : opS (.mv x) fr H = some (x.ev fr, H) := _root_.id rfl
def pickA (c x y : AV) (H : Heap) : Option (AV × Heap) := match c with
  | .bool b => some (if b then x else y, H)
  | _ => none
theorem opS_pick (c x y : Arg) : opS (.pick c x y) fr H = pickA (c.ev fr) (x.ev fr) (y.ev fr) H := _root_.id rfl
theorem pickA_bool (b : Bool) (x y : AV) : pickA (.bool b) x y H = some (if b then x else y, H) := _root_.id rfl
theorem opS_alloc (t : TypeId) (zs : List AV) : opS (.alloc t zs) fr H = some (.ptr H.length zs.length 0, H ++ [.cells t false zs]) := _root_.id rfl
def boxA (t : TypeId) (v : AV) (H : Heap) : Option (AV × Heap) := if v.cells.all AV.one = true then some (.ptr H.length v.cells.length 0, H ++ [.cells t false v.cells]) else none
theorem opS_box (t : TypeId) (x : Arg) : opS (.box t x) fr H = boxA t (x.ev fr) H := _root_.id rfl
theorem boxA_one (t : TypeId) (v : AV) (h : v.one = true) : boxA t v H = some (.ptr H.length 1 0, H ++ [.cells t false [v]]) := by
  have : v.cells = [v] := by cases v <;> first | rfl | simp [AV.one] at h
  simp [boxA, this, h]
theorem boxA_nat (t : TypeId) (k : IntKind) (n : Nat) : boxA t (.nat k n) H = some (.ptr H.length 1 0, H ++ [.cells t false [.nat k n]]) := boxA_one t _ rfl
theorem boxA_lst (t : TypeId) (n sz : Nat) (f : Bool) (cs : List AV) : boxA t (.lst n sz f cs) H = some (.ptr H.length 1 0, H ++ [.cells t false [.lst n sz f cs]]) := boxA_one t _ rfl
theorem boxA_slc (t : TypeId) (i tot off n sz : Nat) : boxA t (.slc i tot off n sz) H = some (.ptr H.length 1 0, H ++ [.cells t false [.slc i tot off n sz]]) := boxA_one t _ rfl
theorem boxA_str (t : TypeId) (s : ByteArray) : boxA t (.str s) H = some (.ptr H.length 1 0, H ++ [.cells t false [.str s]]) := boxA_one t _ rfl
theorem boxA_bool (t : TypeId) (b : Bool) : boxA t (.bool b) H = some (.ptr H.length 1 0, H ++ [.cells t false [.bool b]]) := boxA_one t _ rfl
theorem boxA_agg (t : TypeId) (cs : List AV) (h : cs.all AV.one = true) : boxA t (.agg cs) H = some (.ptr H.length cs.length 0, H ++ [.cells t false cs]) := by simp [boxA, AV.cells, h]
def buildA (cs : Option (List AV)) (H : Heap) : Option (AV × Heap) := match cs with
  | some cs => some (.agg cs, H)
  | none => none
theorem opS_build (zs : List AV) (ps : List (Nat × Nat × Arg)) : opS (.build zs ps) fr H = buildA (fillA zs (evParts fr ps)) H := _root_.id rfl
theorem buildA_some (cs : List AV) : buildA (some cs) H = some (.agg cs, H) := _root_.id rfl
def litA (obj : Bool) (e : TypeId) (n sz : Nat) (cs : Option (List AV)) (H : Heap) : Option (AV × Heap) := match cs with
  | some cs => if cs.length = n * sz then some (if obj then (.slc H.length cs.length 0 n sz, H ++ [.cells e true cs]) else (.lst n sz true cs, H)) else none
  | none => none
theorem opS_lit (obj : Bool) (e : TypeId) (n sz : Nat) (zs : List AV) (ps : List (Nat × Nat × Arg)) : opS (.lit obj e n sz zs ps) fr H = litA obj e n sz (fillA (zrep zs n) (evParts fr ps)) H := _root_.id rfl
theorem litA_false (e : TypeId) (n sz : Nat) (cs : List AV) (h : cs.length = n * sz) : litA false e n sz (some cs) H = some (.lst n sz true cs, H) := by simp [litA, h]
theorem litA_true (e : TypeId) (n sz : Nat) (cs : List AV) (h : cs.length = n * sz) : litA true e n sz (some cs) H = some (.slc H.length cs.length 0 n sz, H ++ [.cells e true cs]) := by simp [litA, h]
theorem evParts_nil : evParts fr [] = [] := _root_.id rfl
theorem evParts_cons (o n : Nat) (x : Arg) (r : List (Nat × Nat × Arg)) : evParts fr ((o, n, x) :: r) = (o, n, x.ev fr) :: evParts fr r := _root_.id rfl
theorem fillA_nil (cs : List AV) : fillA cs [] = some cs := _root_.id rfl
theorem fillA_one (cs : List AV) (o : Nat) (v : AV) (r : List (Nat × Nat × AV)) (hv : v.one = true) (ho : o + 1 ≤ cs.length) : fillA cs ((o, 1, v) :: r) = fillA (cs.set o v) r := by
  have : v.cells = [v] := by cases v <;> first | rfl | simp [AV.one] at hv
  simp only [fillA, this, List.length_cons, List.length_nil, Nat.zero_add, ho, List.all_cons, List.all_nil, Bool.and_true, hv, and_self, if_true]
  congr 1
  rw [splice, List.set_eq_take_append_cons_drop, if_pos (by omega)]; simp
theorem one_nat (k : IntKind) (n : Nat) : (AV.nat k n).one = true := _root_.id rfl
theorem one_lst (n sz : Nat) (f : Bool) (cs : List AV) : (AV.lst n sz f cs).one = true := _root_.id rfl
theorem one_slc (i tot off n sz : Nat) : (AV.slc i tot off n sz).one = true := _root_.id rfl
theorem one_str (s : ByteArray) : (AV.str s).one = true := _root_.id rfl
theorem one_bool (b : Bool) : (AV.bool b).one = true := _root_.id rfl
theorem one_ptr (a b c : Nat) : (AV.ptr a b c).one = true := _root_.id rfl
theorem one_nils : AV.nils.one = true := _root_.id rfl
theorem one_nilp : AV.nilp.one = true := _root_.id rfl
theorem one_nilm : AV.nilm.one = true := _root_.id rfl
theorem one_nilf : AV.nilf.one = true := _root_.id rfl
theorem one_fn (f : FuncId) (c : List AV) : (AV.fn f c).one = true := _root_.id rfl
theorem one_pim (c : List AV) (k : Nat) : (AV.pim c k).one = true := _root_.id rfl
def loadK (H : Heap) (x : AV) (n : Nat) (agg : Bool) : Option (AV × Heap) := match loadA H x n with
  | some vs => same H (mkA agg vs)
  | none => none
theorem opS_load (n : Nat) (agg : Bool) (x : Arg) : opS (.load n agg x) fr H = loadK H (x.ev fr) n agg := _root_.id rfl
theorem loadK_one {id tot idx : Nat} {t : TypeId} {g : Bool} {cs : List AV} {v : AV} (h : H[id]? = some (.cells t g cs)) (hl : cs.length = tot) (hv : cs[idx]? = some v) : loadK H (.ptr id tot idx) 1 false = some (v, H) := by
  obtain ⟨hi, rfl⟩ := List.getElem?_eq_some_iff.1 hv
  have h2 : idx + 1 ≤ cs.length := by omega
  have h3 : (cs.drop idx).take 1 = [cs[idx]] := by
    rw [List.drop_eq_getElem_cons hi]; rfl
  simp only [loadK, loadA, readO, h, hl, if_true]
  rw [← hl, if_pos h2]
  simp only [h3, mkA, Bool.false_eq_true, if_false, same]
theorem loadK_all {id tot n : Nat} {t : TypeId} {g : Bool} {cs : List AV} (h : H[id]? = some (.cells t g cs)) (hl : cs.length = tot) (hn : tot = n) : loadK H (.ptr id tot 0) n true = some (.agg cs, H) := by
  subst hn; subst hl
  simp [loadK, loadA, readO, h, mkA, same]
theorem loadK_agg {id tot idx n : Nat} {t : TypeId} {g : Bool} {cs : List AV} (h : H[id]? = some (.cells t g cs)) (hl : cs.length = tot) (hn : idx + n ≤ tot) : loadK H (.ptr id tot idx) n true = some (.agg ((cs.drop idx).take n), H) := by
  subst hl
  simp [loadK, loadA, readO, h, mkA, same, hn]
theorem loadK_pim {cs : List AV} {idx : Nat} {v : AV} (hv : cs[idx]? = some v) : loadK H (.pim cs idx) 1 false = some (v, H) := by
  obtain ⟨hi, rfl⟩ := List.getElem?_eq_some_iff.1 hv
  have h2 : idx + 1 ≤ cs.length := by omega
  have h3 : (cs.drop idx).take 1 = [cs[idx]] := by
    rw [List.drop_eq_getElem_cons hi]; rfl
  simp only [loadK, loadA, if_pos h2, h3, mkA, Bool.false_eq_true, if_false, same]
theorem loadK_pimAgg {cs : List AV} {idx n : Nat} (h : idx + n ≤ cs.length) : loadK H (.pim cs idx) n true = some (.agg ((cs.drop idx).take n), H) := by
  simp [loadK, loadA, mkA, same, h]
def storeK (H : Heap) (n : Nat) (x y : AV) : Option (AV × Heap) := match x with
  | .ptr id tot idx => if y.cells.length = n then match writeO H id tot idx y.cells with
      | some H' => some (.undef, H')
      | none => none else none
  | _ => none
theorem opS_store (n : Nat) (x y : Arg) : opS (.store n x y) fr H = storeK H n (x.ev fr) (y.ev fr) := _root_.id rfl
theorem storeK_one {id tot idx : Nat} {t : TypeId} {g : Bool} {cs : List AV} {v : AV} (h : H[id]? = some (.cells t g cs)) (hl : cs.length = tot) (hi : idx < tot) (hv : v.one = true) : storeK H 1 (.ptr id tot idx) v = some (.undef, H.set id (.cells t g (cs.set idx v))) := by
  have : v.cells = [v] := by cases v <;> first | rfl | simp [AV.one] at hv
  subst hl
  have h2 : idx + 1 ≤ cs.length := by omega
  simp only [storeK, this, List.length_cons, List.length_nil, Nat.zero_add, if_true, writeO, h, true_and, List.all_cons, List.all_nil, Bool.and_true, hv, and_true, h2]
  congr 4
  rw [splice, List.set_eq_take_append_cons_drop, if_pos (by omega)]; simp
theorem storeK_agg {id tot idx n : Nat} {t : TypeId} {g : Bool} {cs vs : List AV} (h : H[id]? = some (.cells t g cs)) (hl : cs.length = tot) (hn : vs.length = n) (hi : idx + n ≤ tot) (hv : vs.all AV.one = true) : storeK H n (.ptr id tot idx) (.agg vs) = some (.undef, H.set id (.cells t g (splice cs idx vs))) := by
  subst hl hn
  simp only [storeK, AV.cells, if_true, writeO, h, true_and, hv, and_true, hi]
def nilckA (x : AV) (H : Heap) : Option (AV × Heap) := match x with
  | .ptr id tot idx => some (.ptr id tot idx, H)
  | .pim cs k => some (.pim cs k, H)
  | .fn f cap => some (.fn f cap, H)
  | _ => none
theorem opS_nilck (x : Arg) : opS (.nilck x) fr H = nilckA (x.ev fr) H := by
  show (match x.ev fr with | .ptr id tot idx => _ | .pim cs k => _ | .fn f cap => _ | _ => _) = _
  cases x.ev fr <;> rfl
theorem nilckA_ptr (id tot idx : Nat) : nilckA (.ptr id tot idx) H = some (.ptr id tot idx, H) := _root_.id rfl
theorem nilckA_pim (cs : List AV) (k : Nat) : nilckA (.pim cs k) H = some (.pim cs k, H) := _root_.id rfl
theorem nilckA_fn (f : FuncId) (c : List AV) : nilckA (.fn f c) H = some (.fn f c, H) := _root_.id rfl
theorem opS_bin (op : BinOp) (x y : Arg) : opS (.bin op x y) fr H = same H (binA op (x.ev fr) (y.ev fr)) := _root_.id rfl
def eqbA (neg : Bool) (x y : AV) (H : Heap) : Option (AV × Heap) := match x, y with
  | .bool a, .bool b => some (.bool (if neg then !(a == b) else a == b), H)
  | _, _ => none
theorem opS_eqb (neg : Bool) (x y : Arg) : opS (.eqb neg x y) fr H = eqbA neg (x.ev fr) (y.ev fr) H := by
  show (match x.ev fr, y.ev fr with | .bool a, .bool b => _ | _, _ => _) = _
  cases x.ev fr <;> cases y.ev fr <;> rfl
theorem eqbA_bool (neg : Bool) (a b : Bool) : eqbA neg (.bool a) (.bool b) H = some (.bool (if neg then !(a == b) else a == b), H) := _root_.id rfl
def eqgA (neg : Bool) (gs : List Tag) (x y : AV) (H : Heap) : Option (AV × Heap) := match x, y with
  | .agg cs, .agg ds => match eqCells gs cs ds with
    | some b => some (.bool (if neg then !b else b), H)
    | none => none
  | _, _ => none
theorem opS_eqg (neg : Bool) (gs : List Tag) (x y : Arg) : opS (.eqg neg gs x y) fr H = eqgA neg gs (x.ev fr) (y.ev fr) H := by
  show (match x.ev fr, y.ev fr with | .agg cs, .agg ds => _ | _, _ => _) = _
  cases x.ev fr <;> cases y.ev fr <;> rfl
theorem eqgA_some {neg : Bool} {gs : List Tag} {cs ds : List AV} {b : Bool} (h : eqCells gs cs ds = some b) : eqgA neg gs (.agg cs) (.agg ds) H = some (.bool (if neg then !b else b), H) := by simp only [eqgA, h]
theorem opS_eqn (k : NilKind) (op : BinOp) (x y : Arg) : opS (.eqn k op x y) fr H = same H (eqNilA H k op (x.ev fr) (y.ev fr)) := _root_.id rfl
theorem opS_un (op : UnOp) (x : Arg) : opS (.un op x) fr H = same H (unA op (x.ev fr)) := _root_.id rfl
def toIntA (k : IntKind) (x : AV) (H : Heap) : Option (AV × Heap) := match x with
  | .int _ n => some (.int k (k.wrap n), H)
  | _ => none
theorem opS_toInt (k : IntKind) (x : Arg) : opS (.toInt k x) fr H = toIntA k (x.ev fr) H := _root_.id rfl
theorem toInt_u8 : toIntA .u8 (.nat k a) H = some (.nat .u8 (a % 256), H) := by simp only [toIntA, AV.nat, wrap_u8]
theorem toInt_u16 : toIntA .u16 (.nat k a) H = some (.nat .u16 (a % 65536), H) := by simp only [toIntA, AV.nat, wrap_u16]
theorem toInt_u32 : toIntA .u32 (.nat k a) H = some (.nat .u32 (a % 4294967296), H) := by simp only [toIntA, AV.nat, wrap_u32]
theorem toInt_u64 : toIntA .u64 (.nat k a) H = some (.nat .u64 (a % 18446744073709551616), H) := by simp only [toIntA, AV.nat, wrap_u64]
theorem toInt_i64 (h : a < 9223372036854775808) : toIntA .i64 (.nat k a) H = some (.nat .i64 a, H) := by simp only [toIntA, AV.nat, wrap_i64 h]
def toStrA (x : AV) (H : Heap) : Option (AV × Heap) := match x with
  | .str s => some (.str s, H)
  | _ => none
theorem opS_toStr (x : Arg) : opS (.toStr x) fr H = toStrA (x.ev fr) H := _root_.id rfl
theorem toStrA_str (s : ByteArray) : toStrA (.str s) H = some (.str s, H) := _root_.id rfl
def s2bA (e : TypeId) (x : AV) (H : Heap) : Option (AV × Heap) := match x with
  | .str s => some (.slc H.length s.size 0 s.size 1, H ++ [.cells e true (byteVals s)])
  | _ => none
theorem opS_s2b (e : TypeId) (x : Arg) : opS (.s2b e x) fr H = s2bA e (x.ev fr) H := _root_.id rfl
theorem s2bA_str (e : TypeId) (s : ByteArray) : s2bA e (.str s) H = some (.slc H.length s.size 0 s.size 1, H ++ [.cells e true (byteVals s)]) := _root_.id rfl
theorem opS_mkfn (f : FuncId) (cap : List Arg) : opS (.mkfn f cap) fr H = some (.fn f (cap.map (·.ev fr)), H) := _root_.id rfl
def mksA (e : TypeId) (sz bytes : Nat) (zs : List AV) (l c : AV) (H : Heap) : Option (AV × Heap) := match l, c with
  | .int _ l, .int _ c => if 0 ≤ l ∧ l ≤ c ∧ (bytes : Int) * c ≤ 281474976710656 ∧ c ≤ 9223372036854775807 then some (.slc H.length (l.toNat * sz) 0 l.toNat sz, H ++ [.cells e true (zrep zs l.toNat)]) else none
  | _, _ => none
theorem opS_mks (e : TypeId) (sz bytes : Nat) (zs : List AV) (l c : Arg) : opS (.mks e sz bytes zs l c) fr H = mksA e sz bytes zs (l.ev fr) (c.ev fr) H := by
  show (match l.ev fr, c.ev fr with | .int _ l, .int _ c => _ | _, _ => _) = _
  cases l.ev fr <;> cases c.ev fr <;> rfl
theorem mksA_nat (e : TypeId) (sz bytes : Nat) (zs : List AV) (l c : Nat) (h : l ≤ c) (h1 : bytes * c ≤ 281474976710656) (h2 : c ≤ 9223372036854775807) : mksA e sz bytes zs (.nat k l) (.nat k' c) H = some (.slc H.length (l * sz) 0 l sz, H ++ [.cells e true (zrep zs l)]) := by
  simp only [mksA, AV.nat, Int.toNat_natCast]
  rw [if_pos ⟨by omega, by omega, by have h3 := Int.ofNat_le.2 h1; rw [Int.natCast_mul] at h3; exact h3, by omega⟩]
theorem opS_sliceT (x : Arg) (lo hi : Option Arg) : opS (.sliceT x lo hi) fr H = same H (sliceTA (x.ev fr) (lo.map (·.ev fr)) (hi.map (·.ev fr))) := _root_.id rfl
theorem opS_sliceS (sz : Nat) (x : Arg) (lo hi : Option Arg) : opS (.sliceS sz x lo hi) fr H = same H (sliceSA sz (x.ev fr) (lo.map (·.ev fr)) (hi.map (·.ev fr))) := _root_.id rfl
theorem opS_slarr (n sz : Nat) (x : Arg) (lo hi : Option Arg) : opS (.slarr n sz x lo hi) fr H = same H (slArrO H (x.ev fr) n sz (lo.map (·.ev fr)) (hi.map (·.ev fr))) := _root_.id rfl
theorem bound_none (d : Nat) : boundA d none = some d := _root_.id rfl
theorem bound_nat (d : Nat) : boundA d (some (.nat k a)) = some a := by
  simp only [boundA, natA, AV.nat]; rw [if_pos (by omega)]; simp
theorem opS_faddr (off : Nat) (x : Arg) : opS (.faddr off x) fr H = same H (moveA (x.ev fr) off) := _root_.id rfl
theorem moveA_ptr (id tot idx off : Nat) : moveA (.ptr id tot idx) off = some (.ptr id tot (idx + off)) := _root_.id rfl
theorem moveA_pim (cs : List AV) (k off : Nat) : moveA (.pim cs k) off = some (.pim cs (k + off)) := _root_.id rfl
theorem opS_field (off n : Nat) (agg : Bool) (x : Arg) : opS (.field off n agg x) fr H = same H (partA (x.ev fr) off n agg) := _root_.id rfl
theorem partA_one {cs : List AV} {off : Nat} {v : AV} (h : cs[off]? = some v) : partA (.agg cs) off 1 false = some v := by
  obtain ⟨hi, rfl⟩ := List.getElem?_eq_some_iff.1 h
  have h3 : (cs.drop off).take 1 = [cs[off]] := by
    rw [List.drop_eq_getElem_cons hi]; rfl
  simp only [partA, if_pos (show off + 1 ≤ cs.length by omega), h3, mkA, Bool.false_eq_true, if_false]
theorem partA_agg {cs : List AV} {off n : Nat} (h : off + n ≤ cs.length) : partA (.agg cs) off n true = some (.agg ((cs.drop off).take n)) := by
  simp [partA, h, mkA]
def iadSA (H : Heap) (x i : AV) (sz : Nat) : Option (AV × Heap) := match i with
  | .int _ i => same H (elemAddrA H x i sz)
  | _ => none
theorem opS_iadS (sz : Nat) (x i : Arg) : opS (.iadS sz x i) fr H = iadSA H (x.ev fr) (i.ev fr) sz := _root_.id rfl
theorem iadSA_lst {n sz : Nat} {f : Bool} {cs : List AV} (h : a < n) : iadSA H (.lst n sz f cs) (.nat k a) sz = some (.pim cs (a * sz), H) := by
  simp only [iadSA, AV.nat, elemAddrA, Int.toNat_natCast]
  rw [if_pos ⟨trivial, by omega, by omega⟩]; rfl
theorem iadSA_slc {id tot off n sz : Nat} (h : a < n) (ht : totAt H id = tot) : iadSA H (.slc id tot off n sz) (.nat k a) sz = some (.ptr id tot (off + a * sz), H) := by
  simp only [iadSA, AV.nat, elemAddrA, Int.toNat_natCast]
  rw [if_pos ⟨trivial, by omega, by omega, ht⟩]; rfl
def iadAA (n sz : Nat) (x i : AV) (H : Heap) : Option (AV × Heap) := match i with
  | .int _ i => if 0 ≤ i ∧ i < (n : Int) then same H (moveA x (i.toNat * sz)) else none
  | _ => none
theorem opS_iadA (n sz : Nat) (x i : Arg) : opS (.iadA n sz x i) fr H = iadAA n sz (x.ev fr) (i.ev fr) H := _root_.id rfl
theorem iadAA_nat {n sz : Nat} {x : AV} (h : a < n) : iadAA n sz x (.nat k a) H = same H (moveA x (a * sz)) := by
  simp only [iadAA, AV.nat, Int.toNat_natCast]
  rw [if_pos ⟨by omega, by omega⟩]
def idxSA (x i : AV) (H : Heap) : Option (AV × Heap) := match x, i with
  | .str s, .int _ i => same H (byteA s i)
  | _, _ => none
theorem opS_idxS (x i : Arg) : opS (.idxS x i) fr H = idxSA (x.ev fr) (i.ev fr) H := by
  show (match x.ev fr, i.ev fr with | .str s, .int _ i => _ | _, _ => _) = _
  cases x.ev fr <;> cases i.ev fr <;> rfl
theorem idxSA_nat {s : ByteArray} {b : UInt8} (h : s[a]? = some b) : idxSA (.str s) (.nat k a) H = some (.nat .u8 b.toNat, H) := by
  simp only [idxSA, AV.nat, byteA, Int.toNat_natCast, h]
  rw [if_pos (by omega)]; rfl
def idxAA (n sz : Nat) (agg : Bool) (x i : AV) (H : Heap) : Option (AV × Heap) := match i with
  | .int _ i => if 0 ≤ i ∧ i < (n : Int) then same H (partA x (i.toNat * sz) sz agg) else none
  | _ => none
theorem opS_idxA (n sz : Nat) (agg : Bool) (x i : Arg) : opS (.idxA n sz agg x i) fr H = idxAA n sz agg (x.ev fr) (i.ev fr) H := _root_.id rfl
theorem idxAA_nat {n sz : Nat} {agg : Bool} {x : AV} (h : a < n) : idxAA n sz agg x (.nat k a) H = same H (partA x (a * sz) sz agg) := by
  simp only [idxAA, AV.nat, Int.toNat_natCast]
  rw [if_pos ⟨by omega, by omega⟩]
def extA (x : AV) (i : Nat) (H : Heap) : Option (AV × Heap) := match x with
  | .tup vs => same H vs[i]?
  | _ => none
theorem opS_ext (x : Arg) (i : Nat) : opS (.ext x i) fr H = extA (x.ev fr) i H := _root_.id rfl
theorem extA_tup (vs : List AV) (i : Nat) : extA (.tup vs) i H = same H vs[i]? := _root_.id rfl
def lenSA (x : AV) (H : Heap) : Option (AV × Heap) := if isStrA x = true then none else match slenA x with
  | some n => some (.nat .i64 n, H)
  | none => none
theorem opS_lenS (x : Arg) : opS (.lenS x) fr H = lenSA (x.ev fr) H := _root_.id rfl
theorem lenSA_nils : lenSA .nils H = some (.nat .i64 0, H) := _root_.id rfl
theorem lenSA_lst (n sz : Nat) (f : Bool) (cs : List AV) : lenSA (.lst n sz f cs) H = some (.nat .i64 n, H) := _root_.id rfl
theorem lenSA_slc (i tot off n sz : Nat) : lenSA (.slc i tot off n sz) H = some (.nat .i64 n, H) := _root_.id rfl
def lenTA (x : AV) (H : Heap) : Option (AV × Heap) := match x with
  | .str s => some (.nat .i64 s.size, H)
  | _ => none
theorem opS_lenT (x : Arg) : opS (.lenT x) fr H = lenTA (x.ev fr) H := _root_.id rfl
theorem lenTA_str (s : ByteArray) : lenTA (.str s) H = some (.nat .i64 s.size, H) := _root_.id rfl
theorem opS_lenA (n : Nat) : opS (.lenA n) fr H = some (.nat .i64 n, H) := _root_.id rfl
theorem opS_app (e : TypeId) (sz bytes : Nat) (x y : Arg) : opS (.app e sz bytes x y) fr H = appA H e (x.ev fr) (y.ev fr) sz bytes := _root_.id rfl
theorem opS_cpy (sz : Nat) (x y : Arg) : opS (.cpy sz x y) fr H = copyA H (x.ev fr) (y.ev fr) sz := _root_.id rfl
theorem opS_mm (m : Bool) (x : Arg) (ys : List Arg) : opS (.mm m x ys) fr H = same H (mmsA m (x.ev fr) (ys.map (·.ev fr))) := _root_.id rfl
theorem mm_min2 : mmsA false (.nat k a) [.nat k b] = some (.nat k (min a b)) := by
  simp only [mmsA, mmA, AV.nat, Bool.false_eq_true, if_false, Option.some.injEq, AV.int.injEq, true_and]
  by_cases h : b < a
  · have : ((b : Int) < a) := by omega
    rw [if_pos this, Nat.min_eq_right (by omega)]
  · have : ¬ ((b : Int) < a) := by omega
    rw [if_neg this, Nat.min_eq_left (by omega)]
theorem mm_max2 : mmsA true (.nat k a) [.nat k b] = some (.nat k (max a b)) := by
  simp only [mmsA, mmA, AV.nat, if_true, Option.some.injEq, AV.int.injEq, true_and]
  by_cases h : a < b
  · have : ((b : Int) > a) := by omega
    rw [if_pos this, Nat.max_eq_right (by omega)]
  · have : ¬ ((b : Int) > a) := by omega
    rw [if_neg this, Nat.max_eq_left (by omega)]

/-! #### the memory -/
theorem heap_new (G : Heap) : (H ++ G)[H.length]? = G[0]? := by rw [List.getElem?_append_right (Nat.le_refl _)]; simp
theorem heap_newk (G : Heap) (k : Nat) : (H ++ G)[H.length + k]? = G[k]? := by rw [List.getElem?_append_right (by omega)]; simp
theorem heap_old {G : Heap} {i : Nat} {o : AObj} (h : H[i]? = some o) : (H ++ G)[i]? = some o := by rw [List.getElem?_append_left (List.getElem?_eq_some_iff.1 h).1]; exact h
theorem heap_set (G : Heap) (o : AObj) : (H ++ G).set H.length o = H ++ G.set 0 o := by rw [List.set_append_right _ _ (Nat.le_refl _)]; simp
theorem heap_setk (G : Heap) (k : Nat) (o : AObj) : (H ++ G).set (H.length + k) o = H ++ G.set k o := by rw [List.set_append_right _ _ (by omega)]; simp
theorem heap_setOld {G : Heap} {i : Nat} {o x : AObj} (h : H[i]? = some o) : (H ++ G).set i x = H.set i x ++ G := by rw [List.set_append_left _ _ (List.getElem?_eq_some_iff.1 h).1]
theorem totAt_cells {i : Nat} {t : TypeId} {g : Bool} {cs : List AV} (h : H[i]? = some (.cells t g cs)) : totAt H i = cs.length := by unfold totAt; rw [h]; rfl
end
end Go.Proofs.Ah

