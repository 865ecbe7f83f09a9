/- A small code of the abstract memory's operations, made of the program's own code; that each operation does what the model's does. -/
import Derived.Test.YtncghckcdhfhjaaGreatDoorAh3
import Derived.Calls
set_option linter.unusedVariables false
set_option linter.unusedSimpArgs false
namespace Go.Proofs.Ah
open Go

inductive AOp where
  | mv (x : Arg)
  | pick (c x y : Arg)
  | alloc (t : TypeId) (zs : List AV)
  | box (t : TypeId) (x : Arg)
  | build (zs : List AV) (ps : List (Nat × Nat × Arg))
  | lit (obj : Bool) (e : TypeId) (n sz : Nat) (zs : List AV) (ps : List (Nat × Nat × Arg))
  | load (n : Nat) (agg : Bool) (x : Arg)
  | store (n : Nat) (x y : Arg)
  | nilck (x : Arg)
  | bin (op : BinOp) (x y : Arg)
  | eqb (neg : Bool) (x y : Arg)
  | eqg (neg : Bool) (gs : List Tag) (x y : Arg)
  | eqn (k : NilKind) (op : BinOp) (x y : Arg)
  | un (op : UnOp) (x : Arg)
  | toInt (k : IntKind) (x : Arg)
  | toStr (x : Arg)
  | s2b (e : TypeId) (x : Arg)
  | b2s (x : Arg)
  | mkfn (f : FuncId) (cap : List Arg)
  | mks (e : TypeId) (sz bytes : Nat) (zs : List AV) (l c : Arg)
  | sliceT (x : Arg) (lo hi : Option Arg)
  | sliceS (sz : Nat) (x : Arg) (lo hi : Option Arg)
  | slarr (n sz : Nat) (x : Arg) (lo hi : Option Arg)
  | faddr (off : Nat) (x : Arg)
  | field (off n : Nat) (agg : Bool) (x : Arg)
  | iadS (sz : Nat) (x i : Arg)
  | iadA (n sz : Nat) (x i : Arg)
  | idxS (x i : Arg)
  | idxA (n sz : Nat) (agg : Bool) (x i : Arg)
  | ext (x : Arg) (i : Nat)
  | lenS (x : Arg)
  | lenT (x : Arg)
  | lenA (n : Nat)
  | app (e : TypeId) (sz bytes : Nat) (x y : Arg)
  | cpy (sz : Nat) (x y : Arg)
  | mm (isMax : Bool) (x : Arg) (ys : List Arg)
  | mkmap
  | capS (x : Arg)
  | appM (e : TypeId) (sz bytes : Nat) (zs : List AV) (x n : Arg)
  | look (kt : KeyT) (z : AV) (ok : Bool) (m x : Arg)
  | mset (kt : KeyT) (m x v : Arg)

def evParts (fr : AFrame) (ps : List (Nat × Nat × Arg)) : List (Nat × Nat × AV) := ps.map fun p => (p.1, p.2.1, p.2.2.ev fr)
def same (H : Heap) : Option AV → Option (AV × Heap)
  | some v => some (v, H)
  | none => none
/-- A slice of a list or an object, sizes held. -/
def sliceSA (sz : Nat) (x : AV) (lo hi : Option AV) : Option AV :=
  match x with
  | .nils => match boundA 0 lo, boundA 0 hi with
    | some l, some h => sliceA .nils l h
    | _, _ => none
  | .slc id tot off len sz' => if sz' = sz then match boundA 0 lo, boundA len hi with
    | some l, some h => sliceA (.slc id tot off len sz') l h
    | _, _ => none else none
  | .lst n sz' full cs => if sz' = sz then match boundA 0 lo, boundA n hi with
    | some l, some h => sliceA (.lst n sz' full cs) l h
    | _, _ => none else none
  | _ => none
def sliceTA (x : AV) (lo hi : Option AV) : Option AV :=
  match x with
  | .str s => match boundA 0 lo, boundA s.size hi with
    | some l, some h => if l ≤ h ∧ h ≤ s.size then some (.str (s.extract l h)) else none
    | _, _ => none
  | _ => none
def slArrO (H : Heap) (x : AV) (n sz : Nat) (lo hi : Option AV) : Option AV :=
  match boundA 0 lo, boundA n hi with
  | some l, some h => slArrA H x n sz l h
  | _, _ => none
def isStrA : AV → Bool
  | .str _ => true
  | _ => false

/-- What an operation makes. -/
def opS (op : AOp) (fr : AFrame) (H : Heap) : Option (AV × Heap) :=
  match op with
  | .mv x => some (x.ev fr, H)
  | .pick c x y => match c.ev fr with
    | .bool b => some (if b then x.ev fr else y.ev fr, H)
    | _ => none
  | .alloc t zs => some (.ptr H.length zs.length 0, H ++ [.cells t false zs])
  | .box t x => if (x.ev fr).cells.all AV.one = true then some (.ptr H.length (x.ev fr).cells.length 0, H ++ [.cells t false (x.ev fr).cells]) else none
  | .build zs ps => match fillA zs (evParts fr ps) with
    | some cs => some (.agg cs, H)
    | none => none
  | .lit obj e n sz zs ps => match fillA (zrep zs n) (evParts fr ps) with
    | some cs => if cs.length = n * sz then some (if obj then (.slc H.length cs.length 0 n sz, H ++ [.cells e true cs]) else (.lst n sz true cs, H)) else none
    | none => none
  | .load n agg x => match loadA H (x.ev fr) n with
    | some vs => same H (mkA agg vs)
    | none => none
  | .store n x y => match x.ev fr with
    | .ptr id tot idx => if (y.ev fr).cells.length = n then match writeO H id tot idx (y.ev fr).cells with
      | some H' => some (.undef, H')
      | none => none else none
    | _ => none
  | .nilck x => match x.ev fr with
    | .ptr id tot idx => some (.ptr id tot idx, H)
    | .pim cs k => some (.pim cs k, H)
    | .fn f cap => some (.fn f cap, H)
    | _ => none
  | .bin op x y => same H (binA op (x.ev fr) (y.ev fr))
  | .eqb neg x y => match x.ev fr, y.ev fr with
    | .bool a, .bool b => some (.bool (if neg then !(a == b) else a == b), H)
    | _, _ => none
  | .eqg neg gs x y => match x.ev fr, y.ev fr with
    | .agg cs, .agg ds => match eqCells gs cs ds with
      | some b => some (.bool (if neg then !b else b), H)
      | none => none
    | _, _ => none
  | .eqn k op x y => same H (eqNilA H k op (x.ev fr) (y.ev fr))
  | .un op x => same H (unA op (x.ev fr))
  | .toInt k x => match x.ev fr with
    | .int _ n => some (.int k (k.wrap n), H)
    | _ => none
  | .toStr x => match x.ev fr with
    | .str s => some (.str s, H)
    | _ => none
  | .s2b e x => match x.ev fr with
    | .str s => some (.slc H.length s.size 0 s.size 1, H ++ [.cells e true (byteVals s)])
    | _ => none
  | .b2s x => if isStrA (x.ev fr) = true then none else match elemsA H (x.ev fr) 1 with
    | some (_, cs) => match u8sOf cs with
      | some ns => some (.str (bytesOf ns), H)
      | none => none
    | none => none
  | .mkfn f cap => some (.fn f (cap.map (·.ev fr)), H)
  | .mks e sz bytes zs l c => match l.ev fr, c.ev fr with
    | .int _ l, .int _ c => if 0 ≤ l ∧ l ≤ c ∧ (bytes : Int) * c ≤ 281474976710656 ∧ c ≤ 9223372036854775807 then some (.slc H.length (l.toNat * sz) 0 l.toNat sz, H ++ [.cells e true (zrep zs l.toNat)]) else none
    | _, _ => none
  | .sliceT x lo hi => same H (sliceTA (x.ev fr) (lo.map (·.ev fr)) (hi.map (·.ev fr)))
  | .sliceS sz x lo hi => same H (sliceSA sz (x.ev fr) (lo.map (·.ev fr)) (hi.map (·.ev fr)))
  | .slarr n sz x lo hi => same H (slArrO H (x.ev fr) n sz (lo.map (·.ev fr)) (hi.map (·.ev fr)))
  | .faddr off x => same H (moveA (x.ev fr) off)
  | .field off n agg x => same H (partA (x.ev fr) off n agg)
  | .iadS sz x i => match i.ev fr with
    | .int _ i => same H (elemAddrA H (x.ev fr) i sz)
    | _ => none
  | .iadA n sz x i => match i.ev fr with
    | .int _ i => if 0 ≤ i ∧ i < (n : Int) then same H (moveA (x.ev fr) (i.toNat * sz)) else none
    | _ => none
  | .idxS x i => match x.ev fr, i.ev fr with
    | .str s, .int _ i => same H (byteA s i)
    | _, _ => none
  | .idxA n sz agg x i => match i.ev fr with
    | .int _ i => if 0 ≤ i ∧ i < (n : Int) then same H (partA (x.ev fr) (i.toNat * sz) sz agg) else none
    | _ => none
  | .ext x i => match x.ev fr with
    | .tup vs => same H vs[i]?
    | _ => none
  | .lenS x => if isStrA (x.ev fr) = true then none else match slenA (x.ev fr) with
    | some n => some (.int .i64 (n : Int), H)
    | none => none
  | .lenT x => match x.ev fr with
    | .str s => some (.int .i64 (s.size : Int), H)
    | _ => none
  | .lenA n => some (.int .i64 (n : Int), H)
  | .app e sz bytes x y => appA H e (x.ev fr) (y.ev fr) sz bytes
  | .cpy sz x y => copyA H (x.ev fr) (y.ev fr) sz
  | .mm isMax x ys => same H (mmsA isMax (x.ev fr) (ys.map (·.ev fr)))
  | .mkmap => some (.map H.length, H ++ [.map []])
  | .appM e sz bytes zs x n => appMA H e sz bytes zs (x.ev fr) (n.ev fr)
  | .capS x => match capA (x.ev fr) with
    | some n => some (.int .i64 (n : Int), H)
    | none => none
  | .look kt z ok m x => same H (lookR z ok (lookA H kt (m.ev fr) (x.ev fr)))
  | .mset kt m x v => msetA H kt (m.ev fr) (x.ev fr) (v.ev fr)

/-! #### from the program's code -/
def cArg : Operand → Option Arg
  | .tmp t => some (.t t)
  | .const v => match cConst v with
    | some x => some (.c x)
    | none => none
  | .func f => some (.c (.fn f []))
  | .global _ => none
def cArgs : List Operand → Option (List Arg)
  | [] => some []
  | x :: r => match cArg x, cArgs r with
    | some a, some l => some (a :: l)
    | _, _ => none
def cArgO : Option Operand → Option (Option Arg)
  | none => some none
  | some x => match cArg x with
    | some a => some (some a)
    | none => none
def cParts (place : Nat → Option (Nat × Nat)) : List (Nat × Operand) → Option (List (Nat × Nat × Arg))
  | [] => some []
  | (i, x) :: r => match place i, cArg x, cParts place r with
    | some (o, n), some a, some l => some ((o, n, a) :: l)
    | _, _, _ => none
def isU8 (P : Program) (e : TypeId) : Bool :=
  match P.underlying e with
  | some (.int .u8) => true
  | _ => false
def cBuiltin (P : Program) (b : Builtin) (xs : List Operand) (ts : List TypeId) : Option AOp :=
  match b, xs, ts with
  | .len, [x], [t] => match P.underlying t, cArg x with
    | some (.slice _), some a => some (.lenS a)
    | some .string, some a => some (.lenT a)
    | some (.array n _), some _ => some (.lenA n)
    | _, _ => none
  | .append, [x, y], [t, u] => match P.underlying t, cArg x, cArg y with
    | some (.slice e), some a, some b => match elemP P e with
      | some (sz, bytes, zs) => if noZeros P u = true then some (.app e sz bytes a b) else match P.underlying u with
        | some (.int _) => some (.appM e sz bytes zs a b)
        | _ => none
      | none => none
    | _, _, _ => none
  | .copy, [x, y], [t, _] => match P.underlying t, cArg x, cArg y with
    | some (.slice e), some a, some b => match sizeP P e with
      | some sz => some (.cpy sz a b)
      | none => none
    | _, _, _ => none
  | .max, x :: ys, _ => match cArg x, cArgs ys with
    | some a, some l => some (.mm true a l)
    | _, _ => none
  | .min, x :: ys, _ => match cArg x, cArgs ys with
    | some a, some l => some (.mm false a l)
    | _, _ => none
  | .cap, [x], [t] => match P.underlying t, cArg x with
    | some (.slice _), some a => some (.capS a)
    | _, _ => none
  | _, _, _ => none
def cOp (P : Program) (obj : Bool) (op : Op) : Option AOp :=
  match op with
  | .move x => match cArg x with
    | some a => some (.mv a)
    | none => none
  | .assign x => match cArg x with
    | some a => some (.mv a)
    | none => none
  | .pick c x y => match cArg c, cArg x, cArg y with
    | some c, some a, some b => some (.pick c a b)
    | _, _, _ => none
  | .alloc t => match zeroP P t with
    | some zs => some (.alloc t zs)
    | none => none
  | .box t x => match cArg x with
    | some a => some (.box t a)
    | none => none
  | .build t parts => match zeroP P t, cParts (placeP P t) parts.toList with
    | some zs, some ps => if sizesOk P t = true then some (.build zs ps) else none
    | _, _ => none
  | .buildSlice t n parts => match P.underlying t with
    | some (.slice e) => match elemP P e with
      | some (sz, _, zs) => match cParts (fun i => some (i * sz, sz)) parts.toList with
        | some ps => if n * sz ≤ 16777216 then some (.lit obj e n sz zs ps) else none
        | none => none
      | none => none
    | _ => none
  | .load t x => match isAggP P t, sizeP P t, cArg x with
    | some agg, some n, some a => if agg = false → n = 1 then some (.load n agg a) else none
    | _, _, _ => none
  | .store t x y => match sizeP P t, cArg x, cArg y with
    | some n, some a, some b => some (.store n a b)
    | _, _, _ => none
  | .nilCheck x => match cArg x with
    | some a => some (.nilck a)
    | none => none
  | .binOp op t x y _ => match cArg x, cArg y with
    | some a, some b => match P.underlying t with
      | some .bool => match op with
        | .eql => some (.eqb false a b)
        | .neq => some (.eqb true a b)
        | _ => none
      | some (.int _) => some (.bin op a b)
      | some .string => some (.bin op a b)
      | _ => match nilKind P t with
        | some k => some (.eqn k op a b)
        | none => match flatP P t, op with
          | some gs, .eql => some (.eqg false gs a b)
          | some gs, .neq => some (.eqg true gs a b)
          | _, _ => none
    | _, _ => none
  | .unOp op _ x => match cArg x with
    | some a => some (.un op a)
    | none => none
  | .convert s d x => match P.underlying s, P.underlying d, cArg x with
    | some (.int _), some (.int k), some a => some (.toInt k a)
    | some .string, some .string, some a => some (.toStr a)
    | some .string, some (.slice e), some a => if isU8 P e = true then some (.s2b e a) else none
    | some (.slice e), some .string, some a => if isU8 P e = true then some (.b2s a) else none
    | _, _, _ => none
  | .makeFunc f first cap => match f, first.toList, cArgs cap.toList with
    | .func f, [], some l => some (.mkfn f l)
    | _, _, _ => none
  | .makeSlice t l c => match P.underlying t, cArg l, cArg c with
    | some (.slice e), some l, some c => match elemP P e with
      | some (sz, bytes, zs) => some (.mks e sz bytes zs l c)
      | none => none
    | _, _, _ => none
  | .slice t x lo hi mx => match mx, cArg x, cArgO lo, cArgO hi with
    | none, some a, some lo, some hi => match P.underlying t with
      | some .string => some (.sliceT a lo hi)
      | some (.slice e) => match sizeP P e with
        | some sz => some (.sliceS sz a lo hi)
        | none => none
      | some (.array n e) => match sizeP P e with
        | some sz => some (.slarr n sz a lo hi)
        | none => none
      | _ => none
    | _, _, _, _ => none
  | .fieldAddr t x f => match fieldP P t f, cArg x with
    | some (off, ft), some a => match sizeP P ft with
      | some n => if n ≠ 0 then some (.faddr off a) else none
      | none => none
    | _, _ => none
  | .field t x f => match fieldP P t f, cArg x with
    | some (off, ft), some a => match sizeP P ft, isAggP P ft with
      | some n, some agg => if agg = false → n = 1 then some (.field off n agg a) else none
      | _, _ => none
    | _, _ => none
  | .indexAddr t x i => match P.underlying t, cArg x, cArg i with
    | some (.slice e), some a, some i => match sizeP P e with
      | some sz => some (.iadS sz a i)
      | none => none
    | some (.array n e), some a, some i => match sizeP P e with
      | some sz => some (.iadA n sz a i)
      | none => none
    | _, _, _ => none
  | .index t x i => match P.underlying t, cArg x, cArg i with
    | some .string, some a, some i => some (.idxS a i)
    | some (.array n e), some a, some i => match sizeP P e, isAggP P e with
      | some sz, some agg => if agg = false → sz = 1 then some (.idxA n sz agg a i) else none
      | _, _ => none
    | _, _, _ => none
  | .extract x i => match cArg x with
    | some a => some (.ext a i)
    | none => none
  | .call c => match c.callee with
    | .builtin b => cBuiltin P b c.args.toList c.argTypes.toList
    | _ => none
  | .makeMap _ r => match r with
    | none => some .mkmap
    | some _ => none
  | .lookup t m x ok => match P.underlying t, cArg m, cArg x with
    | some (.map k e), some m, some x => match keyP P k, zero1P P e with
      | some kt, some z => some (.look kt z ok m x)
      | _, _ => none
    | _, _, _ => none
  | .mapUpdate t m x v => match P.underlying t, cArg m, cArg x, cArg v with
    | some (.map k _), some m, some x, some v => match keyP P k with
      | some kt => some (.mset kt m x v)
      | none => none
    | _, _, _, _ => none
  | _ => none

/-- An abstract frame and the model's. -/
structure FR (μ : Nat → Pl) (H : Heap) (w : World) (fr : AFrame) (a : Act) : Prop where
  val : ∀ t, VR μ H w (fr t) (a.tmps.getD t undef)

section
variable {P : Program} {B : Nat} {μ : Nat → Pl} {H : Heap} {w : World} {fr : AFrame} {a : Act}

theorem FR.mono {μ' H' w'} (h : FR μ H w fr a) (E : Ext μ H w μ' H' w') : FR μ' H' w' fr a := ⟨fun t => (h.val t).mono E⟩
theorem FR.put (h : FR μ H w fr a) {d : Nat} {v : AV} {x : Value} (hd : d < a.tmps.size) (hv : VR μ H w v x) : FR μ H w (upd fr d v) (a.put (some d) x) := by
  refine ⟨fun t => ?_⟩
  unfold upd
  simp only [Act.put]
  by_cases ht : t = d
  · subst ht
    rw [if_pos rfl]
    simpa [Array.getD, hd] using hv
  · rw [if_neg ht]
    have : (a.tmps.setIfInBounds d x).getD t undef = a.tmps.getD t undef := by
      simp only [Array.getD_eq_getD_getElem?]
      rw [Array.getElem?_setIfInBounds_ne (by omega)]
    rw [this]; exact h.val t
theorem cArg_ok (h : FR μ H w fr a) {x : Operand} {g : Arg} (hc : cArg x = some g) : VR μ H w (g.ev fr) (a.eval x) := by
  cases x <;> simp only [cArg] at hc
  · injection hc with hc; subst hc; exact h.val _
  · split at hc
    · rename_i v hv; injection hc with hc; subst hc; exact cConst_ok hv
    · cases hc
  · cases hc
  · injection hc with hc; subst hc; exact .fn _ [] #[] rfl (fun i h => by simp at h)
theorem cArgO_ok (h : FR μ H w fr a) {x : Option Operand} {g : Option Arg} (hc : cArgO x = some g) : VRo μ H w (g.map (·.ev fr)) (x.map a.eval) := by
  cases x with
  | none => simp only [cArgO] at hc; injection hc with hc; subst hc; exact .none
  | some x =>
    simp only [cArgO] at hc
    split at hc
    · rename_i g' hg; injection hc with hc; subst hc; exact .some (cArg_ok h hg)
    · cases hc
theorem cArgs_ok (h : FR μ H w fr a) : ∀ {xs : List Operand} {gs : List Arg}, cArgs xs = some gs → gs.length = xs.length ∧ ∀ i (h1 : i < gs.length) (h2 : i < xs.length), VR μ H w (gs[i].ev fr) (a.eval xs[i])
  | [], gs, hc => by simp only [cArgs] at hc; injection hc with hc; subst hc; exact ⟨rfl, fun i h => by simp at h⟩
  | x :: r, gs, hc => by
    simp only [cArgs] at hc
    split at hc
    · rename_i g l hg hl
      injection hc with hc; subst hc
      obtain ⟨k1, k2⟩ := cArgs_ok h hl
      refine ⟨by simp [k1], fun i h1 h2 => ?_⟩
      cases i with
      | zero => exact cArg_ok h hg
      | succ i => simpa using k2 i (by simpa using h1) (by simpa using h2)
    · cases hc
theorem cParts_ok (h : FR μ H w fr a) {place : Nat → Option (Nat × Nat)} : ∀ {xs : List (Nat × Operand)} {ps : List (Nat × Nat × Arg)}, cParts place xs = some ps →
    (evParts fr ps).length = (xs.map fun p => (p.1, a.eval p.2)).length ∧ ∀ i (h1 : i < (xs.map fun p => (p.1, a.eval p.2)).length) (h2 : i < (evParts fr ps).length),
      place (xs.map fun p => (p.1, a.eval p.2))[i].1 = some ((evParts fr ps)[i].1, (evParts fr ps)[i].2.1) ∧ VR μ H w (evParts fr ps)[i].2.2 (xs.map fun p => (p.1, a.eval p.2))[i].2
  | [], ps, hc => by simp only [cParts] at hc; injection hc with hc; subst hc; exact ⟨rfl, fun i h => by simp at h⟩
  | (j, x) :: r, ps, hc => by
    simp only [cParts] at hc
    split at hc
    · rename_i o n g l hp hg hl
      injection hc with hc; subst hc
      obtain ⟨k1, k2⟩ := cParts_ok h hl
      refine ⟨by simpa [evParts] using k1, fun i h1 h2 => ?_⟩
      cases i with
      | zero => exact ⟨hp, cArg_ok h hg⟩
      | succ i =>
        have := k2 i (by simpa using h1) (by simpa [evParts] using h2)
        simpa [evParts] using this
    · cases hc
end
end Go.Proofs.Ah

/- Each operation of the program's code does what the small code's says. -/
set_option linter.unusedVariables false
set_option linter.unusedSimpArgs false
namespace Go.Proofs.Ah
open Go

section
variable {P : Program} {B : Nat} {μ : Nat → Pl} {H : Heap} {w : World} {fr : AFrame} {a : Act}

/-- An operation, no call, has made v. -/
def Done (P : Program) (B : Nat) (μ : Nat → Pl) (H : Heap) (w : World) (a : Act) (o : Oper) (v : AV) (H' : Heap) : Prop :=
  ∃ r μ' w', ((execOp a.eval o).run P w = .ok (.value r) w' ∨ ((execOp a.eval o).run P w = .ok .skip w' ∧ r = undef)) ∧ Sim B μ' H' w' ∧ Ext μ H w μ' H' w' ∧ VR μ' H' w' v r

theorem Done.v {o : Oper} {v : AV} {H' : Heap} {m : Sem Value} (h : StepV P B μ H w m v H') (he : execOp a.eval o = (do pure (Next.value (← m)))) : Done P B μ H w a o v H' := by
  obtain ⟨r, μ', w', h1, h2, h3, h4⟩ := h
  exact ⟨r, μ', w', .inl (by rw [he]; simp only [Sem.run_bind, h1, Result.andThen_ok, Sem.run_pure]), h2, h3, h4⟩
theorem Done.u {o : Oper} {H' : Heap} {m : Sem Unit} (h : StepU P B μ H w m H') (he : execOp a.eval o = (do m; pure Next.skip)) : Done P B μ H w a o .undef H' := by
  obtain ⟨μ', w', h1, h2, h3⟩ := h
  exact ⟨undef, μ', w', .inr ⟨by rw [he]; simp only [Sem.run_bind, h1, Result.andThen_ok, Sem.run_pure], rfl⟩, h2, h3, .undef _⟩
theorem Done.val (s : Sim B μ H w) {o : Oper} {v : AV} {r : Value} (h : (execOp a.eval o).run P w = .ok (.value r) w) (hv : VR μ H w v r) : Done P B μ H w a o v H := ⟨r, μ, w, .inl h, s, Ext.refl _ _ _, hv⟩
theorem same_ok {H H' : Heap} {x : Option AV} {v : AV} (h : same H x = some (v, H')) : x = some v ∧ H' = H := by
  cases x with
  | none => simp [same] at h
  | some y => simp only [same] at h; injection h with h; injection h with h1 h2; exact ⟨by rw [h1], h2.symm⟩
theorem execOp_builtin {o : Oper} {b : Builtin} {xs : Array Operand} {ts : Array TypeId} (ho : o.op = .call { callee := .builtin b, args := xs, argTypes := ts }) :
    execOp a.eval o = builtin b ts o.type (xs.map fun | .const _ => true | _ => false) (xs.map a.eval) := by
  unfold execOp
  simp only [ho, resolve, invoke, pure_bind]
  rfl
theorem isU8_ok {e : TypeId} (h : isU8 P e = true) : P.underlying e = some (.int .u8) := by
  unfold isU8 at h
  split at h
  · assumption
  · cases h
theorem isStr_ok {x : AV} (h : ¬ isStrA x = true) (t : ByteArray) : x ≠ .str t := by rintro rfl; exact h rfl

theorem cBuiltin_ok (s : Sim B μ H w) (F : FR μ H w fr a) {o : Oper} {b : Builtin} {xs : Array Operand} {ts : Array TypeId} (ho : o.op = .call { callee := .builtin b, args := xs, argTypes := ts }) {op : AOp} (hc : cBuiltin P b xs.toList ts.toList = some op) {v : AV} {H' : Heap} (h : opS op fr H = some (v, H')) :
    Done P B μ H w a o v H' := by
  have hx := execOp_builtin (a := a) ho
  obtain ⟨xs⟩ := xs
  obtain ⟨ts⟩ := ts
  unfold cBuiltin at hc
  split at hc
  · rename_i x t e1 e2
    simp only at e1 e2; subst e1 e2
    simp only [List.map_toArray, List.map_cons, List.map_nil, builtin] at hx
    split at hc
    · rename_i e x' hu hg
      injection hc with hc; subst hc
      simp only [opS] at h
      split at h
      · cases h
      · rename_i hs
        split at h
        · rename_i n hn
          injection h with h; injection h with h1 h2; subst h1 h2
          exact .v (st_len s (cArg_ok F hg) hn (.inl ⟨_, hu, isStr_ok hs⟩)) hx
        · cases h
    · rename_i x' hu hg
      injection hc with hc; subst hc
      simp only [opS] at h
      split at h
      · rename_i t' ht
        injection h with h; injection h with h1 h2; subst h1 h2
        exact .v (st_len s (cArg_ok F hg) (by rw [ht]; rfl) (.inr ⟨hu, _, ht⟩)) hx
      · cases h
    · rename_i n e x' hu hg
      injection hc with hc; subst hc
      simp only [opS] at h
      injection h with h; injection h with h1 h2; subst h1 h2
      exact .v (st_lenArr s hu _) hx
    · cases hc
  · rename_i x y t u e1 e2
    simp only at e1 e2; subst e1 e2
    simp only [List.map_toArray, List.map_cons, List.map_nil, builtin] at hx
    split at hc
    · rename_i e x' y' hu hg hk
      split at hc
      · rename_i sz bytes zs he
        split at hc
        · rename_i hnz
          injection hc with hc; subst hc
          simp only [opS] at h
          exact .v (st_append s (cArg_ok F hg) (cArg_ok F hk) hu hnz he h) hx
        · split at hc
          · rename_i hik
            injection hc with hc; subst hc
            simp only [opS] at h
            exact .v (st_appMake s (cArg_ok F hg) (cArg_ok F hk) hu hik he h) hx
          · cases hc
      · cases hc
    · cases hc
  · rename_i x y t u e1 e2
    simp only at e1 e2; subst e1 e2
    simp only [List.map_toArray, List.map_cons, List.map_nil, builtin] at hx
    split at hc
    · rename_i e x' y' hu hg hk
      split at hc
      · rename_i sz he
        injection hc with hc; subst hc
        simp only [opS] at h
        exact .v (st_copy s (cArg_ok F hg) (cArg_ok F hk) hu he h) hx
      · cases hc
    · cases hc
  · rename_i x ys e1
    simp only at e1; subst e1
    simp only [List.map_toArray, List.map_cons, builtin] at hx
    split at hc
    · rename_i g l hg hl
      injection hc with hc; subst hc
      simp only [opS] at h
      obtain ⟨h1, rfl⟩ := same_ok h
      obtain ⟨k1, k2⟩ := cArgs_ok F hl
      obtain ⟨zv, z1, z2⟩ := mmsA_ok (P := P) (yvs := ys.map a.eval) (cArg_ok F hg) (by simp [k1]) (fun i h1 h2 => by
        simp only [List.getElem_map]
        exact k2 i (by simpa using h1) (by simpa using h2)) h1
      exact .v (StepV.pure s (by simpa [Builtin.max_] using z1) z2) hx
    · cases hc
  · rename_i x ys e1
    simp only at e1; subst e1
    simp only [List.map_toArray, List.map_cons, builtin] at hx
    split at hc
    · rename_i g l hg hl
      injection hc with hc; subst hc
      simp only [opS] at h
      obtain ⟨h1, rfl⟩ := same_ok h
      obtain ⟨k1, k2⟩ := cArgs_ok F hl
      obtain ⟨zv, z1, z2⟩ := mmsA_ok (P := P) (yvs := ys.map a.eval) (cArg_ok F hg) (by simp [k1]) (fun i h1 h2 => by
        simp only [List.getElem_map]
        exact k2 i (by simpa using h1) (by simpa using h2)) h1
      exact .v (StepV.pure s (by simpa [Builtin.min_] using z1) z2) hx
    · cases hc
  · rename_i x t e1 e2
    simp only at e1 e2; subst e1 e2
    simp only [List.map_toArray, List.map_cons, List.map_nil, builtin] at hx
    split at hc
    · rename_i e x' hu hg
      injection hc with hc; subst hc
      simp only [opS] at h
      split at h
      · rename_i n hn
        injection h with h; injection h with h1 h2; subst h1 h2
        exact .v (st_cap s (cArg_ok F hg) hn hu) hx
      · cases h
    · cases hc
  · cases hc

theorem opS_ok (s : Sim B μ H w) (F : FR μ H w fr a) {o : Oper} {obj : Bool} {op : AOp} (hc : cOp P obj o.op = some op) {v : AV} {H' : Heap} (h : opS op fr H = some (v, H')) : Done P B μ H w a o v H' := by
  unfold cOp at hc
  split at hc
  case h_1 x ho =>
    split at hc
    · rename_i g hg
      injection hc with hc; subst hc
      simp only [opS] at h; injection h with h; injection h with h1 h2; subst h1 h2
      exact .val s (by unfold execOp; simp only [ho, Sem.run_pure]) (cArg_ok F hg)
    · cases hc
  case h_2 x ho =>
    split at hc
    · rename_i g hg
      injection hc with hc; subst hc
      simp only [opS] at h; injection h with h; injection h with h1 h2; subst h1 h2
      exact .val s (by unfold execOp; simp only [ho, Sem.run_pure]) (cArg_ok F hg)
    · cases hc
  case h_3 c x y ho =>
    split at hc
    · rename_i gc gx gy h1 h2 h3
      injection hc with hc; subst hc
      simp only [opS] at h
      split at h
      · rename_i b hb
        injection h with h; injection h with e1 e2; subst e1 e2
        have hcv := cArg_ok F h1
        rw [hb] at hcv
        have hb' : a.eval c = .bool b := by
          generalize a.eval c = cv at hcv
          cases hcv; rfl
        refine .val s (r := if b then a.eval x else a.eval y) (by unfold execOp; simp only [ho, hb', asBool, Sem.run_bind, Sem.run_pure, Result.andThen_ok]) ?_
        cases b
        · exact cArg_ok F h3
        · exact cArg_ok F h2
      · cases h
    · cases hc
  case h_4 t ho =>
    split at hc
    · rename_i zs hz
      injection hc with hc; subst hc
      simp only [opS] at h; injection h with h; injection h with h1 h2; subst h1 h2
      exact .v (st_alloc s hz (.tuple #[])) (by unfold execOp; simp only [ho])
    · cases hc
  case h_5 t x ho =>
    split at hc
    · rename_i g hg
      injection hc with hc; subst hc
      simp only [opS] at h
      split at h
      · rename_i h1
        injection h with h; injection h with e1 e2; subst e1 e2
        exact .v (st_box s (cArg_ok F hg) h1) (by unfold execOp; simp only [ho])
      · cases h
    · cases hc
  case h_6 t parts ho =>
    split at hc
    · rename_i zs ps hz hp
      split at hc
      · rename_i hs
        injection hc with hc; subst hc
        simp only [opS] at h
        split at h
        · rename_i cs hcs
          injection h with h; injection h with e1 e2; subst e1 e2
          obtain ⟨k1, k2⟩ := cParts_ok F hp
          have he : (parts.map fun (p : Nat × Operand) => (p.1, a.eval p.2)).toList = parts.toList.map fun p => (p.1, a.eval p.2) := by simp
          exact .v (st_build s hz hs (parts.map fun p => (p.1, a.eval p.2)) (evParts fr ps) (by rw [k1]; simp) (fun i h1 h2 => by simp only [he]; exact k2 i (by simpa using h1) h2) hcs) (by unfold execOp; simp only [ho])
        · cases h
      · cases hc
    · cases hc
  case h_7 t n parts ho =>
    split at hc
    · rename_i e hu
      split at hc
      · rename_i sz bytes zs he
        split at hc
        · rename_i ps hp
          split at hc
          · rename_i hn
            injection hc with hc; subst hc
            simp only [opS] at h
            split at h
            · rename_i cs hcs
              split at h
              · rename_i hl
                injection h with h
                obtain ⟨k1, k2⟩ := cParts_ok F hp
                have hm : (parts.map fun (p : Nat × Operand) => (p.1, a.eval p.2)).toList = parts.toList.map fun p => (p.1, a.eval p.2) := by simp
                have hpp : ∀ i (h : i < (parts.map fun (p : Nat × Operand) => (p.1, a.eval p.2)).toList.length) (h' : i < (evParts fr ps).length), (evParts fr ps)[i].1 = (parts.map fun (p : Nat × Operand) => (p.1, a.eval p.2)).toList[i].1 * sz ∧ (evParts fr ps)[i].2.1 = sz ∧ VR μ H w (evParts fr ps)[i].2.2 (parts.map fun (p : Nat × Operand) => (p.1, a.eval p.2)).toList[i].2 := fun i h1 h2 => by
                  obtain ⟨q1, q2⟩ := k2 i (by simpa using h1) h2
                  simp only [Option.some.injEq, Prod.mk.injEq] at q1
                  simp only [hm]
                  refine ⟨?_, ?_, q2⟩
                  · exact q1.1.symm
                  · exact q1.2.symm
                cases obj with
                | true =>
                  simp only [if_true] at h; injection h with e1 e2; subst e1 e2
                  exact .v (st_litObj s hu he n hn _ (evParts fr ps) (by rw [k1]; simp) hpp hcs hl) (by unfold execOp; simp only [ho])
                | false =>
                  simp only [Bool.false_eq_true, if_false] at h; injection h with e1 e2; subst e1 e2
                  exact .v (st_lit s hu he n hn _ (evParts fr ps) (by rw [k1]; simp) hpp hcs hl) (by unfold execOp; simp only [ho])
              · cases h
            · cases h
          · cases hc
        · cases hc
      · cases hc
    · cases hc
  case h_8 t x ho =>
    split at hc
    · rename_i agg n g hA hn hg
      split at hc
      · rename_i h1
        injection hc with hc; subst hc
        simp only [opS] at h
        split at h
        · rename_i vs hvs
          obtain ⟨e1, rfl⟩ := same_ok h
          cases agg with
          | true =>
            simp only [mkA, ↓reduceIte] at e1; injection e1 with e1; subst e1
            exact .v (st_load_agg s (cArg_ok F hg) hA hn hvs) (by unfold execOp; simp only [ho])
          | false =>
            have := h1 rfl
            subst this
            simp only [mkA, Bool.false_eq_true, ↓reduceIte] at e1
            split at e1
            · injection e1 with e1; subst e1
              exact .v (st_load_one s (cArg_ok F hg) hA hvs) (by unfold execOp; simp only [ho])
            · cases e1
        · cases h
      · cases hc
    · cases hc
  case h_9 t x y ho =>
    split at hc
    · rename_i n gx gy hn hgx hgy
      injection hc with hc; subst hc
      simp only [opS] at h
      split at h
      · rename_i id tot idx hid
        split at h
        · rename_i hl
          split at h
          · rename_i H'' hw
            injection h with h; injection h with e1 e2; subst e1 e2
            have hx := cArg_ok F hgx
            rw [hid] at hx
            exact .u (st_store s hx (cArg_ok F hgy) hn hl hw) (by unfold execOp; simp only [ho])
          · cases h
        · cases h
      · cases h
    · cases hc
  case h_10 x ho =>
    split at hc
    · rename_i g hg
      injection hc with hc; subst hc
      simp only [opS] at h
      have hx := cArg_ok F hg
      split at h
      · rename_i id tot idx he
        injection h with h; injection h with e1 e2; subst e1 e2
        rw [he] at hx
        generalize hv : a.eval x = xv at hx
        cases hx with
        | ptr _ _ _ ad hid hle ha => exact .val s (r := .pointer (some ad)) (by unfold execOp; simp only [ho, hv, Sem.run_pure]) (.ptr _ _ _ _ hid hle ha)
      · rename_i cs k he
        injection h with h; injection h with e1 e2; subst e1 e2
        rw [he] at hx
        generalize hv : a.eval x = xv at hx
        cases hx with
        | pim _ _ b o' u h1 h2 h3 h4 h5 => exact .val s (by unfold execOp; simp only [ho, hv, Sem.run_pure]) (.pim _ _ b o' u h1 h2 h3 h4 h5)
      · rename_i f cap he
        injection h with h; injection h with e1 e2; subst e1 e2
        rw [he] at hx
        generalize hv : a.eval x = xv at hx
        cases hx with
        | fn _ _ cv h1 h2 => exact .val s (by unfold execOp; simp only [ho, hv, Sem.run_pure]) (.fn _ _ cv h1 h2)
      · cases h
    · cases hc
  case h_11 op' t x y yt ho =>
    split at hc
    · rename_i gx gy hgx hgy
      have hx := cArg_ok F hgx
      have hy := cArg_ok F hgy
      split at hc
      · rename_i hu
        have hb : ∀ neg, opS (.eqb neg gx gy) fr H = some (v, H') → ∃ a' b', a.eval x = .bool a' ∧ a.eval y = .bool b' ∧ v = .bool (if neg then !(a' == b') else a' == b') ∧ H' = H := by
          intro neg hh
          simp only [opS] at hh
          split at hh
          · rename_i a' b' ea eb
            injection hh with hh; injection hh with e1 e2
            rw [ea] at hx; rw [eb] at hy
            refine ⟨a', b', ?_, ?_, e1.symm, e2.symm⟩
            · generalize a.eval x = cv at hx
              cases hx; rfl
            · generalize a.eval y = cv at hy
              cases hy; rfl
          · cases hh
        split at hc
        · injection hc with hc; subst hc
          obtain ⟨a', b', ea, eb, rfl, rfl⟩ := hb _ h
          refine .v (st_eqbool (op := .eql) s x y hu _ (.inl ⟨rfl, rfl⟩)) (by unfold execOp; simp only [ho, ea, eb])
        · injection hc with hc; subst hc
          obtain ⟨a', b', ea, eb, rfl, rfl⟩ := hb _ h
          refine .v (st_eqbool (op := .neq) s x y hu _ (.inr ⟨rfl, rfl⟩)) (by unfold execOp; simp only [ho, ea, eb])
        · cases hc
      · injection hc with hc; subst hc
        simp only [opS] at h
        obtain ⟨e1, rfl⟩ := same_ok h
        exact .v (st_bin s hx hy t x y e1) (by unfold execOp; simp only [ho])
      · injection hc with hc; subst hc
        simp only [opS] at h
        obtain ⟨e1, rfl⟩ := same_ok h
        exact .v (st_bin s hx hy t x y e1) (by unfold execOp; simp only [ho])
      · split at hc
        · rename_i k hk
          injection hc with hc; subst hc
          simp only [opS] at h
          obtain ⟨e1, rfl⟩ := same_ok h
          exact .v (st_eqnil s hx hy x y hk e1) (by unfold execOp; simp only [ho])
        · have hg : ∀ neg gs, opS (.eqg neg gs gx gy) fr H = some (v, H') → ∃ cs ds b, gx.ev fr = .agg cs ∧ gy.ev fr = .agg ds ∧ eqCells gs cs ds = some b ∧ v = .bool (if neg then !b else b) ∧ H' = H := by
            intro neg gs hh
            simp only [opS] at hh
            split at hh
            · rename_i cs ds ea eb
              split at hh
              · rename_i b hb'
                injection hh with hh; injection hh with e1 e2
                exact ⟨cs, ds, b, ea, eb, hb', e1.symm, e2.symm⟩
              · cases hh
            · cases hh
          split at hc
          · rename_i gs hfl
            injection hc with hc; subst hc
            obtain ⟨cs, ds, b, ea, eb, e3, rfl, rfl⟩ := hg _ _ h
            rw [ea] at hx; rw [eb] at hy
            exact .v (st_eqg (op := .eql) s hx hy hfl x y e3 (.inl ⟨rfl, rfl⟩)) (by unfold execOp; simp only [ho])
          · rename_i gs hfl
            injection hc with hc; subst hc
            obtain ⟨cs, ds, b, ea, eb, e3, rfl, rfl⟩ := hg _ _ h
            rw [ea] at hx; rw [eb] at hy
            exact .v (st_eqg (op := .neq) s hx hy hfl x y e3 (.inr ⟨rfl, rfl⟩)) (by unfold execOp; simp only [ho])
          · cases hc
    · cases hc
  case h_12 op' t x ho =>
    split at hc
    · rename_i g hg
      injection hc with hc; subst hc
      simp only [opS] at h
      obtain ⟨e1, rfl⟩ := same_ok h
      exact .v (st_un s (cArg_ok F hg) e1) (by unfold execOp; simp only [ho])
    · cases hc
  case h_13 sd d x ho =>
    split at hc
    · rename_i k1 k2 g hs hd hg
      injection hc with hc; subst hc
      simp only [opS] at h
      split at h
      · rename_i k3 n he
        injection h with h; injection h with e1 e2; subst e1 e2
        have hx := cArg_ok F hg
        rw [he] at hx
        generalize hv : a.eval x = xv at hx
        cases hx
        exact .v (m := convert sd d (.int k3 n)) (st_toInt s (by rw [hs]; rfl) hd) (by unfold execOp; simp only [ho, hv])
      · cases h
    · rename_i g hs hd hg
      injection hc with hc; subst hc
      simp only [opS] at h
      split at h
      · rename_i n he
        injection h with h; injection h with e1 e2; subst e1 e2
        have hx := cArg_ok F hg
        rw [he] at hx
        generalize hv : a.eval x = xv at hx
        cases hx
        exact .v (st_toStr s (by rw [hs]; rfl) hd) (by unfold execOp; simp only [ho, hv])
      · cases h
    · rename_i e g hs hd hg
      split at hc
      · rename_i h8
        injection hc with hc; subst hc
        simp only [opS] at h
        split at h
        · rename_i n he
          injection h with h; injection h with e1 e2; subst e1 e2
          have hx := cArg_ok F hg
          rw [he] at hx
          generalize hv : a.eval x = xv at hx
          cases hx
          exact .v (st_s2b s hs hd (isU8_ok h8)) (by unfold execOp; simp only [ho, hv])
        · cases h
      · cases hc
    · rename_i e g hs hd hg
      split at hc
      · rename_i h8
        injection hc with hc; subst hc
        simp only [opS] at h
        split at h
        · cases h
        · rename_i hns
          split at h
          · rename_i n cs hcs
            split at h
            · rename_i ns hns'
              injection h with h; injection h with e1 e2; subst e1 e2
              exact .v (st_b2s s (cArg_ok F hg) hs hd (isU8_ok h8) hcs hns' (isStr_ok hns)) (by unfold execOp; simp only [ho])
            · cases h
          · cases h
      · cases hc
    · cases hc
  case h_14 f first cap ho =>
    split at hc
    · rename_i f' l hf hl
      injection hc with hc; subst hc
      simp only [opS] at h; injection h with h; injection h with e1 e2; subst e1 e2
      obtain ⟨k1, k2⟩ := cArgs_ok F hl
      have hfe : first = #[] := by apply Array.ext'; simpa using hf
      subst hfe
      refine .val s (r := .func (.func f') #[] (cap.map a.eval)) (by unfold execOp; simp only [ho, Instr.makeFunc, Sem.run_bind, Sem.run_pure, Result.andThen_ok, Array.map_empty]) (.fn _ _ _ (by simp [k1]) fun i h1 h2 => ?_)
      simp only [List.getElem_map, Array.getElem_map]
      have := k2 i (by simpa using h1) (by simpa using h2)
      simpa using this
    · cases hc
  case h_15 t l c ho =>
    split at hc
    · rename_i e gl gc hu hl hcg
      split at hc
      · rename_i sz bytes zs he
        injection hc with hc; subst hc
        simp only [opS] at h
        split at h
        · rename_i k1 l' k2 c' e1 e2
          split at h
          · rename_i hb
            injection h with h; injection h with q1 q2; subst q1 q2
            have hx := cArg_ok F hl
            have hy := cArg_ok F hcg
            rw [e1] at hx; rw [e2] at hy
            generalize hv : a.eval l = xv at hx
            generalize hv2 : a.eval c = yv at hy
            cases hx; cases hy
            exact .v (st_make s hu he k1 k2 hb.1 hb.2.1 hb.2.2.1 hb.2.2.2) (by unfold execOp; simp only [ho, hv, hv2])
          · cases h
        · cases h
      · cases hc
    · cases hc
  case h_16 t x lo hi mx ho =>
    split at hc
    · rename_i g lo' hi' hg hlo hhi
      have hx := cArg_ok F hg
      have vlo := cArgO_ok F hlo
      have vhi := cArgO_ok F hhi
      split at hc
      · rename_i hu
        injection hc with hc; subst hc
        simp only [opS] at h
        obtain ⟨e1, rfl⟩ := same_ok h
        unfold sliceTA at e1
        split at e1
        · rename_i t' ht
          rw [ht] at hx
          generalize hv : a.eval x = xv at hx
          cases hx
          split at e1
          · rename_i l h' h1 h2
            split at e1
            · rename_i hb
              injection e1 with e1; subst e1
              exact .v (st_sliceStr s hu vlo vhi h1 h2 hb.1 hb.2) (by unfold execOp; simp only [ho, hv, Option.map_none])
            · cases e1
          · cases e1
        · cases e1
      · rename_i e hu
        split at hc
        · rename_i sz hsz
          injection hc with hc; subst hc
          simp only [opS] at h
          obtain ⟨e1, rfl⟩ := same_ok h
          have key : ∀ n l h', slenA (g.ev fr) = some n → boundA 0 (lo'.map (·.ev fr)) = some l → boundA n (hi'.map (·.ev fr)) = some h' → sliceA (g.ev fr) l h' = some v → (∀ n sz' f cs, g.ev fr = .lst n sz' f cs → sz' = sz) → (∀ i t o n sz', g.ev fr = .slc i t o n sz' → sz' = sz) → (∀ t, g.ev fr ≠ .str t) →
              Done P B μ _ w a o v _ := fun n l h' k1 k2 k3 k4 k5 k6 k7 =>
            (Done.v (m := Instr.sliceAt t (a.eval x) (lo.map a.eval) (hi.map a.eval) none) (st_sliceSl s hx hu hsz vlo vhi k1 k2 k3 k4 k5 k6 k7) (by unfold execOp; simp only [ho, Option.map_none]))
          unfold sliceSA at e1
          split at e1
          · rename_i hx'
            split at e1
            · rename_i l h' q1 q2
              exact key 0 l h' (by rw [hx']; rfl) q1 q2 (by rw [hx']; exact e1) (by rw [hx']; intros; contradiction) (by rw [hx']; intros; contradiction) (by rw [hx']; intro t hh; cases hh)
            · cases e1
          · rename_i id tot off len sz' hx'
            split at e1
            · rename_i hsz'
              split at e1
              · rename_i l h' q1 q2
                exact key len l h' (by rw [hx']; rfl) q1 q2 (by rw [hx']; exact e1) (by rw [hx']; intros; contradiction) (by rw [hx']; intro i t o n sz'' hh; injection hh with _ _ _ _ h5; rw [← h5]; exact hsz') (by rw [hx']; intro t hh; cases hh)
              · cases e1
            · cases e1
          · rename_i n sz' full cs hx'
            split at e1
            · rename_i hsz'
              split at e1
              · rename_i l h' q1 q2
                exact key n l h' (by rw [hx']; rfl) q1 q2 (by rw [hx']; exact e1) (by rw [hx']; intro n sz'' f cs hh; injection hh with _ h5; rw [← h5]; exact hsz') (by rw [hx']; intros; contradiction) (by rw [hx']; intro t hh; cases hh)
              · cases e1
            · cases e1
          · cases e1
        · cases hc
      · rename_i n e hu
        split at hc
        · rename_i sz hsz
          injection hc with hc; subst hc
          simp only [opS] at h
          obtain ⟨e1, rfl⟩ := same_ok h
          unfold slArrO at e1
          split at e1
          · rename_i l h' q1 q2
            exact .v (st_sliceArr s hx hu hsz vlo vhi q1 q2 e1) (by unfold execOp; simp only [ho, Option.map_none])
          · cases e1
        · cases hc
      · cases hc
    · cases hc
  case h_17 t x f ho =>
    split at hc
    · rename_i off ft g hf hg
      split at hc
      · rename_i n hn
        split at hc
        · rename_i hn0
          injection hc with hc; subst hc
          simp only [opS] at h
          obtain ⟨e1, rfl⟩ := same_ok h
          exact .v (st_faddr s (cArg_ok F hg) hf hn hn0 e1) (by unfold execOp; simp only [ho])
        · cases hc
      · cases hc
    · cases hc
  case h_18 t x f ho =>
    split at hc
    · rename_i off ft g hf hg
      split at hc
      · rename_i n agg hn hA
        split at hc
        · rename_i h1
          injection hc with hc; subst hc
          simp only [opS] at h
          obtain ⟨e1, rfl⟩ := same_ok h
          exact .v (st_field s (cArg_ok F hg) hf hn hA h1 e1) (by unfold execOp; simp only [ho])
        · cases hc
      · cases hc
    · cases hc
  case h_19 t x i ho =>
    split at hc
    · rename_i e g gi hu hg hgi
      split at hc
      · rename_i sz hsz
        injection hc with hc; subst hc
        simp only [opS] at h
        split at h
        · rename_i k i' hi
          obtain ⟨e1, rfl⟩ := same_ok h
          have hy := cArg_ok F hgi
          rw [hi] at hy
          generalize hv : a.eval i = iv at hy
          cases hy
          exact .v (m := Instr.indexAt t (a.eval x) (.int k i')) (st_iadS s (cArg_ok F hg) hu hsz e1) (by unfold execOp; simp only [ho, hv])
        · cases h
      · cases hc
    · rename_i n e g gi hu hg hgi
      split at hc
      · rename_i sz hsz
        injection hc with hc; subst hc
        simp only [opS] at h
        split at h
        · rename_i k i' hi
          split at h
          · rename_i hb
            obtain ⟨e1, rfl⟩ := same_ok h
            have hy := cArg_ok F hgi
            rw [hi] at hy
            generalize hv : a.eval i = iv at hy
            cases hy
            exact .v (m := Instr.indexAt t (a.eval x) (.int k i')) (st_iadA s (cArg_ok F hg) hu hsz hb.1 hb.2 e1) (by unfold execOp; simp only [ho, hv])
          · cases h
        · cases h
      · cases hc
    · cases hc
  case h_20 t x i ho =>
    split at hc
    · rename_i g gi hu hg hgi
      injection hc with hc; subst hc
      simp only [opS] at h
      split at h
      · rename_i t' k i' ht hi
        obtain ⟨e1, rfl⟩ := same_ok h
        have hx := cArg_ok F hg
        have hy := cArg_ok F hgi
        rw [ht] at hx; rw [hi] at hy
        generalize hv : a.eval i = iv at hy
        generalize hv2 : a.eval x = xv at hx
        cases hy; cases hx
        exact .v (m := Instr.index t (.string t') (.int k i')) (st_idxS s hu e1) (by unfold execOp; simp only [ho, hv, hv2])
      · cases h
    · rename_i n e g gi hu hg hgi
      split at hc
      · rename_i sz agg hsz hA
        split at hc
        · rename_i h1
          injection hc with hc; subst hc
          simp only [opS] at h
          split at h
          · rename_i k i' hi
            split at h
            · rename_i hb
              obtain ⟨e1, rfl⟩ := same_ok h
              have hy := cArg_ok F hgi
              rw [hi] at hy
              generalize hv : a.eval i = iv at hy
              cases hy
              exact .v (m := Instr.index t (a.eval x) (.int k i')) (st_idxA s (cArg_ok F hg) hu hsz hA h1 hb.1 hb.2 e1) (by unfold execOp; simp only [ho, hv])
            · cases h
          · cases h
        · cases hc
      · cases hc
    · cases hc
  case h_21 x i ho =>
    split at hc
    · rename_i g hg
      injection hc with hc; subst hc
      simp only [opS] at h
      split at h
      · rename_i vs hvs
        obtain ⟨e1, rfl⟩ := same_ok h
        have hx := cArg_ok F hg
        rw [hvs] at hx
        exact .v (st_ext s hx e1) (by unfold execOp; simp only [ho])
      · cases h
    · cases hc
  case h_22 c ho =>
    split at hc
    · rename_i b hb
      obtain ⟨callee, xs, ts⟩ := c
      simp only at hb; subst hb
      exact cBuiltin_ok s F ho hc h
    · cases hc
  case h_23 t r ho =>
    split at hc
    · injection hc with hc; subst hc
      simp only [opS] at h; injection h with h; injection h with h1 h2; subst h1 h2
      exact .v (st_mkmap s t) (by unfold execOp; simp only [ho]; rfl)
    · cases hc
  case h_24 t m x ok ho =>
    split at hc
    · rename_i k e gm gx hu hm hx
      split at hc
      · rename_i kt z hk hz
        injection hc with hc; subst hc
        simp only [opS] at h
        obtain ⟨h1, rfl⟩ := same_ok h
        exact .v (st_look s (cArg_ok F hm) (cArg_ok F hx) hu hk hz h1) (by unfold execOp; simp only [ho])
      · cases hc
    · cases hc
  case h_25 t m x v ho =>
    split at hc
    · rename_i k e gm gx gv hu hm hx hv
      split at hc
      · rename_i kt hk
        injection hc with hc; subst hc
        simp only [opS] at h
        obtain ⟨rfl, hst⟩ := st_mset s (cArg_ok F hm) (cArg_ok F hx) (cArg_ok F hv) hu hk h
        exact .u hst (by unfold execOp; simp only [ho])
      · cases hc
    · cases hc
  case h_26 => cases hc
end
end Go.Proofs.Ah

/- An abstract call; an operation, calls too; guards; operations in the order of the text. -/
set_option linter.unusedVariables false
set_option linter.unusedSimpArgs false
namespace Go.Proofs.Ah
open Go

/-- A function with a body, and none that the machine takes for itself. -/
def CallOk (P : Program) (f : FuncId) : Prop := ∃ fn, P.funcs[f]? = some fn ∧ (fn.name == "runtime.NumGoroutine") = false ∧ fn.body.isNone = false
def callOkB (P : Program) (f : FuncId) : Bool :=
  match P.funcs[f]? with
  | some fn => !(fn.name == "runtime.NumGoroutine") && !fn.body.isNone
  | none => false
theorem callOk_of {P : Program} {f : FuncId} (h : callOkB P f = true) : CallOk P f := by
  unfold callOkB at h
  split at h
  · rename_i fn hf
    exact ⟨fn, hf, by simpa using h⟩
  · cases h

def VRv (μ : Nat → Pl) (H : Heap) (w : World) (vs : List AV) (xs : Array Value) : Prop :=
  xs.size = vs.length ∧ ∀ i (h : i < vs.length) (h' : i < xs.size), VR μ H w vs[i] xs[i]

/-- f, with such arguments, in such a memory, comes back with r, in the memory H'. -/
def ACall (P : Program) (f : FuncId) (args : List AV) (H : Heap) (r : AV) (H' : Heap) : Prop :=
  CallOk P f ∧ ∀ B μ w xs, Sim B μ H w → VRv μ H w args xs →
    Calls P f xs w fun e w' => ∃ v μ', e = .returned v ∧ Sim B μ' H' w' ∧ Ext μ H w μ' H' w' ∧ VR μ' H' w' r v

/-- An operation, or a call. -/
inductive AO where
  | op (x : AOp)
  | call (f : FuncId) (xs : List Arg)
  | callv (g : Arg) (xs : List Arg)
  | bad
structure AOper where
  dst : Option Nat
  op : AO
  g : Option (Nat × Bool)

def OpA (P : Program) (x : AO) (fr : AFrame) (H : Heap) (v : AV) (H' : Heap) : Prop :=
  match x with
  | .op x => opS x fr H = some (v, H')
  | .call f xs => ACall P f (xs.map (·.ev fr)) H v H'
  | .callv g xs => ∃ f cap, g.ev fr = .fn f cap ∧ ACall P f (xs.map (·.ev fr) ++ cap) H v H'
  | .bad => False
def updO (fr : AFrame) (d : Option Nat) (v : AV) : AFrame :=
  match d with
  | some d => upd fr d v
  | none => fr
def wantA (g : Option (Nat × Bool)) (fr : AFrame) : Option Bool :=
  match g with
  | none => some true
  | some (t, want) => match fr t with
    | .bool b => some (b == want)
    | .tup [] => some false
    | _ => none
def wpOpsA (P : Program) : List AOper → (AFrame → Heap → Prop) → AFrame → Heap → Prop
  | [], K, fr, H => K fr H
  | o :: r, K, fr, H => match wantA o.g fr with
    | some true => ∃ v H', OpA P o.op fr H v H' ∧ wpOpsA P r K (updO fr o.dst v) H'
    | some false => wpOpsA P r K (updO fr o.dst (.tup [])) H
    | none => False

/-! #### from the program's code -/
def cAO (P : Program) (obj : Bool) (op : Op) : Option AO :=
  match op with
  | .call c => match c.callee with
    | .builtin b => match cBuiltin P b c.args.toList c.argTypes.toList with
      | some x => some (.op x)
      | none => some .bad
    | .value (.func f) => match cArgs c.args.toList with
      | some l => some (.call f l)
      | none => some .bad
    | .value x => match cArg x, cArgs c.args.toList with
      | some g, some l => some (.callv g l)
      | _, _ => some .bad
    | _ => some .bad
  | op => match cOp P obj op with
    | some x => some (.op x)
    | none => some .bad
def cOper (P : Program) (obj : Bool) (nt : Nat) (ops : Array Oper) (o : Oper) : Option AOper :=
  match cAO P obj o.op with
  | some x => if o.dst.all (· < nt) = true then match o.guard with
    | none => some ⟨o.dst, x, none⟩
    | some (j, want) => match (ops[j]?).bind (·.dst) with
      | some t => if t < nt then some ⟨o.dst, x, some (t, want)⟩ else none
      | none => none
    else none
  | none => none

section
variable {P : Program} {B : Nat} {μ : Nat → Pl} {H : Heap} {w : World} {fr : AFrame} {a : Act}

/-- A frame of so many places, nothing put off. -/
structure FRn (nt : Nat) (μ : Nat → Pl) (H : Heap) (w : World) (fr : AFrame) (a : Act) : Prop where
  fr : FR μ H w fr a
  nt : a.tmps.size = nt
  df : a.defers = []
theorem FRn.mono {nt μ' H' w'} (h : FRn nt μ H w fr a) (E : Ext μ H w μ' H' w') : FRn nt μ' H' w' fr a := ⟨h.fr.mono E, h.nt, h.df⟩
theorem FRn.putO {nt} (h : FRn nt μ H w fr a) {d : Option Nat} {v : AV} {x : Value} (hd : d.all (· < nt) = true) (hv : VR μ H w v x) : FRn nt μ H w (updO fr d v) (a.put d x) := by
  cases d with
  | none => exact h
  | some d => exact ⟨h.fr.put (by simpa [h.nt] using hd) hv, by simpa [Act.put] using h.nt, h.df⟩

theorem args_ok (F : FR μ H w fr a) {xs : Array Operand} {l : List Arg} (h : cArgs xs.toList = some l) : VRv μ H w (l.map (·.ev fr)) (xs.map a.eval) := by
  obtain ⟨k1, k2⟩ := cArgs_ok F h
  refine ⟨by simp [k1], fun i h1 h2 => ?_⟩
  simp only [List.getElem_map, Array.getElem_map]
  have := k2 i (by simpa using h1) (by simpa using h2)
  simpa using this

theorem run_callFunc {f : FuncId} (h : CallOk P f) (xs : Array Value) : (callFunc f xs).run P w = .ok (.enter f xs) w := by
  obtain ⟨fn, h1, h2, h3⟩ := h
  unfold callFunc
  have : (program : Sem Program).run P w = .ok P w := rfl
  simp only [Sem.run_bind, this, Result.andThen_ok, h1, h2, Bool.false_eq_true, if_false, h3, Sem.run_pure]

theorem cAO_calls {obj : Bool} {o : Oper} {f : FuncId} {l : List Arg} (hc : cAO P obj o.op = some (.call f l)) : ∃ c : Call, o.op = .call c ∧ c.callee = .value (.func f) ∧ cArgs c.args.toList = some l := by
  unfold cAO at hc
  split at hc
  · rename_i c ho
    split at hc
    · split at hc <;> simp at hc
    · rename_i f' hcal
      split at hc
      · rename_i l' hl
        injection hc with hc; injection hc with e1 e2; subst e1 e2
        exact ⟨c, ho, hcal, hl⟩
      · simp at hc
    · split at hc <;> simp at hc
    · simp at hc
  · split at hc <;> simp at hc
theorem cAO_callv {obj : Bool} {o : Oper} {g : Arg} {l : List Arg} (hc : cAO P obj o.op = some (.callv g l)) : ∃ (c : Call) (x : Operand), o.op = .call c ∧ c.callee = .value x ∧ cArg x = some g ∧ cArgs c.args.toList = some l := by
  unfold cAO at hc
  split at hc
  · rename_i c ho
    split at hc
    · split at hc <;> simp at hc
    · split at hc <;> simp at hc
    · rename_i x hx hcal
      split at hc
      · rename_i g' l' hg hl
        injection hc with hc; injection hc with e1 e2; subst e1 e2
        exact ⟨c, _, ho, hcal, hg, hl⟩
      · cases hc
    · simp at hc
  · split at hc <;> simp at hc
theorem cAO_op {obj : Bool} {o : Oper} {x : AOp} (hc : cAO P obj o.op = some (.op x)) : cOp P obj o.op = some x := by
  unfold cAO at hc
  split at hc
  · rename_i c ho
    split at hc
    · rename_i b hb
      split at hc
      · rename_i y hy
        injection hc with hc; injection hc with hc; subst hc
        rw [ho]; simp only [cOp, hb, hy]
      · simp at hc
    · split at hc <;> simp at hc
    · split at hc <;> simp at hc
    · simp at hc
  · split at hc
    · rename_i y hy
      injection hc with hc; injection hc with hc; subst hc
      exact hy
    · simp at hc

/-- An operation, as the walk takes it. -/
theorem oper_wp (s : Sim B μ H w) (F : FR μ H w fr a) {obj : Bool} {o : Oper} {x : AO} (hc : cAO P obj o.op = some x) {v : AV} {H' : Heap} (h : OpA P x fr H v H') {next : Act → World → Prop} {Q : Exit → Act → World → Prop}
    (hn : ∀ r μ' w', Sim B μ' H' w' → Ext μ H w μ' H' w' → VR μ' H' w' v r → next (a.put o.dst r) w') : o.wp P a w next Q := by
  unfold Oper.wp
  cases x with
  | op x =>
    obtain ⟨r, μ', w', hr, s', E, V⟩ := opS_ok s F (cAO_op hc) h
    rcases hr with hr | ⟨hr, rfl⟩
    · rw [hr, Oper.upon_value]; exact hn _ _ _ s' E V
    · rw [hr, Oper.upon_skip]; exact hn _ _ _ s' E V
  | call f l =>
    obtain ⟨c, ho, hcal, hl⟩ := cAO_calls hc
    have he : (execOp a.eval o).run P w = .ok (.enter f (c.args.map a.eval)) w := by
      unfold execOp
      simp only [ho, resolve, hcal, Act.eval, Deferred.ofValue, pure_bind, invoke, Array.append_empty, Array.empty_append]
      exact run_callFunc h.1 _
    rw [he, Oper.upon_enter]
    refine (h.2 B μ w _ s (args_ok F hl)).mono ?_
    rintro e w' ⟨r, μ', rfl, s', E, V⟩
    exact hn _ _ _ s' E V
  | callv g l =>
    obtain ⟨c, x, ho, hcal, hg, hl⟩ := cAO_callv hc
    obtain ⟨f, cap, hgf, hA⟩ := h
    have hx := cArg_ok F hg
    rw [hgf] at hx
    generalize hv : a.eval x = xv at hx
    cases hx with
    | fn _ _ cv h1 h2 =>
      have he : (execOp a.eval o).run P w = .ok (.enter f (c.args.map a.eval ++ cv)) w := by
        unfold execOp
        simp only [ho, resolve, hcal, hv, Deferred.ofValue, pure_bind, invoke, Array.append_empty, Array.empty_append]
        exact run_callFunc hA.1 _
      rw [he, Oper.upon_enter]
      obtain ⟨k1, k2⟩ := args_ok F hl
      refine (hA.2 B μ w _ s ⟨by simp [k1, h1], fun i i1 i2 => ?_⟩).mono ?_
      · rw [List.getElem_append, Array.getElem_append]
        by_cases hi : i < (l.map (·.ev fr)).length
        · rw [dif_pos hi, dif_pos (by rw [k1]; exact hi)]
          exact k2 i hi _
        · rw [dif_neg hi, dif_neg (by rw [k1]; exact hi)]
          simp only [k1]
          exact h2 _ _ _
      · rintro e w' ⟨r, μ', rfl, s', E, V⟩
        exact hn _ _ _ s' E V
  | bad => exact h.elim

theorem want_ok {nt : Nat} {ops : Array Oper} {o : Oper} {obj : Bool} {x : AOper} (hc : cOper P obj nt ops o = some x) (F : FRn nt μ H w fr a) {b : Bool} (hw : wantA x.g fr = some b) : Region.wanted o (yielded ops a.tmps) = b := by
  unfold cOper at hc
  split at hc
  · split at hc
    · unfold Region.wanted
      split at hc
      · rename_i hg
        injection hc with hc; subst hc
        simp only [wantA] at hw; injection hw with hw; subst hw
        rw [hg]
      · rename_i j want hg
        split at hc
        · rename_i t ht
          split at hc
          · rename_i hlt
            injection hc with hc; subst hc
            rw [hg]
            have hv := F.fr.val t
            have hq : a.tmps[t]? = some (a.tmps.getD t undef) := by
              have : t < a.tmps.size := by rw [F.nt]; exact hlt
              simp [Array.getD, this]
            simp only [yielded, ht, Option.bind_some, hq]
            generalize a.tmps.getD t undef = y at hv
            simp only [wantA] at hw
            split at hw
            · rename_i b' hb'
              injection hw with hw; subst hw
              rw [hb'] at hv
              cases hv
              simp
            · rename_i hb'
              injection hw with hw; subst hw
              rw [hb'] at hv
              cases hv with
              | tup _ cv _ _ => simp
            · cases hw
          · cases hc
        · cases hc
    · cases hc
  · cases hc
theorem cOper_dst {nt : Nat} {ops : Array Oper} {o : Oper} {obj : Bool} {x : AOper} (hc : cOper P obj nt ops o = some x) : x.dst = o.dst ∧ o.dst.all (· < nt) = true ∧ cAO P obj o.op = some x.op := by
  unfold cOper at hc
  split at hc
  · rename_i y hy
    split at hc
    · rename_i hd
      split at hc
      · injection hc with hc; subst hc; exact ⟨rfl, hd, hy⟩
      · split at hc
        · split at hc
          · injection hc with hc; subst hc; exact ⟨rfl, hd, hy⟩
          · cases hc
        · cases hc
    · cases hc
  · cases hc
end
end Go.Proofs.Ah

