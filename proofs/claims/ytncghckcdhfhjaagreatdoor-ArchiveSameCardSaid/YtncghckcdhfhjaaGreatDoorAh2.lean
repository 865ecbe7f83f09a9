/- More operations' steps: tests against nil, conversions, addresses, fields, indexes, slices, what is built. -/
import Derived.Test.YtncghckcdhfhjaaGreatDoorAh1
set_option linter.unusedVariables false
set_option linter.unusedSimpArgs false
namespace Go.Proofs.Ah
open Go

inductive NilKind where | ptr | slice | func
def nilKind (P : Program) (t : TypeId) : Option NilKind :=
  match P.underlying t with
  | some (.pointer _) => some .ptr
  | some (.slice _) => some .slice
  | some (.func _ _ _) => some .func
  | _ => none
def slNil (H : Heap) : AV → Option Bool
  | .nils => some true
  | .slc id tot _ len _ => if 0 < len ∧ totAt H id = tot then some false else none
  | .lst n _ _ _ => if 0 < n then some false else none
  | _ => none
/-- Of two values one of which is nil: are both? -/
def bothNil (H : Heap) (k : NilKind) (x y : AV) : Option Bool :=
  match k, x, y with
  | .ptr, .nilp, .nilp => some true
  | .ptr, .nilp, .ptr _ _ _ => some false
  | .ptr, .nilp, .pim _ _ => some false
  | .ptr, .ptr _ _ _, .nilp => some false
  | .ptr, .pim _ _, .nilp => some false
  | .slice, .nils, .nils => some true
  | .slice, .nils, y => slNil H y
  | .slice, x, .nils => slNil H x
  | .func, .nilf, .nilf => some true
  | .func, .nilf, .fn _ _ => some false
  | .func, .fn _ _, .nilf => some false
  | _, _, _ => none
def eqNilA (H : Heap) (k : NilKind) (op : BinOp) (x y : AV) : Option AV :=
  match op, bothNil H k x y with
  | .eql, some b => some (.bool b)
  | .neq, some b => some (.bool !b)
  | _, _ => none

def u8sOf (cs : List AV) : Option (List Int) :=
  match cs with
  | [] => some []
  | .int .u8 n :: r => match u8sOf r with
    | some l => some (n :: l)
    | none => none
  | _ => none
def bytesOf (ns : List Int) : ByteArray := ns.foldl (fun r n => r.push (UInt8.ofNat n.toNat)) ByteArray.empty

section
variable {P : Program} {B : Nat} {μ : Nat → Pl} {H : Heap} {w : World}

theorem VR.isNil (s : Sim B μ H w) {x : AV} {xv : Value} (hx : VR μ H w x xv) {b : Bool} (h : slNil H x = some b) : ∃ a n c, xv = .slice a n c ∧ a.isNone = b := by
  cases hx with
  | nils => simp only [slNil] at h; injection h with h; subst h; exact ⟨_, _, _, rfl, rfl⟩
  | slc id tot off len sz a c hid hle hlc ha =>
    simp only [slNil] at h
    split at h
    · rename_i hh
      injection h with h; subst h
      obtain ⟨rfl, _⟩ := ha hh.2 (by omega)
      exact ⟨_, _, _, rfl, rfl⟩
    · cases h
  | lst0 => simp [slNil] at h
  | lst n sz full cs b o c u hn =>
    simp only [slNil] at h
    rw [if_pos hn] at h
    injection h with h; subst h
    exact ⟨_, _, _, rfl, rfl⟩
  | _ => simp [slNil] at h

theorem eq_of_in {t : TypeId} {xv yv : Value} {b : Bool} (h : ∀ d, (Op.equalIn (d + 1) t xv yv).run P w = .ok b w) : (Op.equal t xv yv).run P w = .ok b w := h 9999
theorem eq_ptr_l {t e : TypeId} (hu : P.underlying t = some (.pointer e)) (b : Option Addr) : (Op.equal t (.pointer none) (.pointer b)).run P w = .ok b.isNone w :=
  eq_of_in fun d => by simp only [Op.equalIn, Sem.run_bind, run_underlying hu, Result.andThen_ok, Sem.run_pure]
theorem eq_ptr_r {t e : TypeId} (hu : P.underlying t = some (.pointer e)) (a : Addr) : (Op.equal t (.pointer (some a)) (.pointer none)).run P w = .ok false w :=
  eq_of_in fun d => by simp only [Op.equalIn, Sem.run_bind, run_underlying hu, Result.andThen_ok, Sem.run_pure]
theorem eq_sl_l {t e : TypeId} (hu : P.underlying t = some (.slice e)) (n c : Nat) (b : Option Addr) (m k : Nat) : (Op.equal t (.slice none n c) (.slice b m k)).run P w = .ok b.isNone w :=
  eq_of_in fun d => by simp only [Op.equalIn, Sem.run_bind, run_underlying hu, Result.andThen_ok, Sem.run_pure]
theorem eq_sl_r {t e : TypeId} (hu : P.underlying t = some (.slice e)) (a : Option Addr) (n c : Nat) (m k : Nat) : (Op.equal t (.slice a n c) (.slice none m k)).run P w = .ok a.isNone w :=
  eq_of_in fun d => by cases a <;> simp only [Op.equalIn, Sem.run_bind, run_underlying hu, Result.andThen_ok, Sem.run_pure, Option.isNone]
theorem eq_fn {t : TypeId} {ps rs : Array TypeId} {b : Bool} (hu : P.underlying t = some (.func ps rs b)) : (Op.equal t .nilFunc .nilFunc).run P w = .ok true w :=
  eq_of_in fun d => by simp only [Op.equalIn, Sem.run_bind, run_underlying hu, Result.andThen_ok, Sem.run_pure]
theorem eq_fn_l {t : TypeId} {ps rs : Array TypeId} {b : Bool} (hu : P.underlying t = some (.func ps rs b)) (f : Fn) (x y : Array Value) : (Op.equal t .nilFunc (.func f x y)).run P w = .ok false w :=
  eq_of_in fun d => by simp only [Op.equalIn, Sem.run_bind, run_underlying hu, Result.andThen_ok, Sem.run_pure]
theorem eq_fn_r {t : TypeId} {ps rs : Array TypeId} {b : Bool} (hu : P.underlying t = some (.func ps rs b)) (f : Fn) (x y : Array Value) : (Op.equal t (.func f x y) .nilFunc).run P w = .ok false w :=
  eq_of_in fun d => by simp only [Op.equalIn, Sem.run_bind, run_underlying hu, Result.andThen_ok, Sem.run_pure]

theorem run_equal_nil (s : Sim B μ H w) {x y : AV} {xv yv : Value} (hx : VR μ H w x xv) (hy : VR μ H w y yv) {t : TypeId} {k : NilKind} (hk : nilKind P t = some k) {b : Bool} (h : bothNil H k x y = some b) :
    (Op.equal t xv yv).run P w = .ok b w := by
  unfold nilKind at hk
  split at hk
  · rename_i e hu; injection hk with hk; subst hk
    cases hx <;> cases hy <;> simp only [bothNil] at h <;> first
      | (injection h with h; subst h; exact eq_ptr_l hu _)
      | (injection h with h; subst h; exact eq_ptr_r hu _)
      | cases h
  · rename_i e hu; injection hk with hk; subst hk
    have h2 : (x = .nils ∧ slNil H y = some b) ∨ (y = .nils ∧ slNil H x = some b) := by
      cases hx <;> cases hy <;> simp only [bothNil] at h <;> first
        | exact .inl ⟨rfl, h⟩
        | exact .inr ⟨rfl, h⟩
        | cases h
    rcases h2 with ⟨rfl, h2⟩ | ⟨rfl, h2⟩
    · obtain ⟨a, n, c, rfl, rfl⟩ := hy.isNil s h2
      cases hx; exact eq_sl_l hu _ _ _ _ _
    · obtain ⟨a, n, c, rfl, rfl⟩ := hx.isNil s h2
      cases hy; exact eq_sl_r hu _ _ _ _ _
  · rename_i ps rs v hu; injection hk with hk; subst hk
    cases hx <;> cases hy <;> simp only [bothNil] at h <;> first
      | (injection h with h; subst h; exact eq_fn hu)
      | (injection h with h; subst h; exact eq_fn_l hu _ _ _)
      | (injection h with h; subst h; exact eq_fn_r hu _ _ _)
      | cases h
  · cases hk
end
end Go.Proofs.Ah

/- More operations' steps: conversions, addresses, fields, indexes, slices. -/
set_option linter.unusedVariables false
set_option linter.unusedSimpArgs false
namespace Go.Proofs.Ah
open Go

/-- A field, of a type that has cells. -/
def fieldP (P : Program) (t : TypeId) (f : Nat) : Option (Nat × TypeId) :=
  match P.underlying t with
  | some (.struct fs) => match fs[f]? with
    | some x => some (x.offset, x.type)
    | none => none
  | _ => none
/-- n cells of an aggregate as one value. -/
def mkA (agg : Bool) (vs : List AV) : Option AV := if agg then some (.agg vs) else match vs with | [v] => some v | _ => none
def partA (x : AV) (off n : Nat) (agg : Bool) : Option AV :=
  match x with
  | .agg cs => if off + n ≤ cs.length then mkA agg ((cs.drop off).take n) else none
  | _ => none
def moveA (x : AV) (off : Nat) : Option AV :=
  match x with
  | .ptr id tot idx => some (.ptr id tot (idx + off))
  | .pim cs k => some (.pim cs (k + off))
  | _ => none
/-- The address of a slice's element. -/
def elemAddrA (H : Heap) (x : AV) (i : Int) (sz : Nat) : Option AV :=
  match x with
  | .slc id tot off len sz' => if sz' = sz ∧ 0 ≤ i ∧ i < len ∧ totAt H id = tot then some (.ptr id tot (off + i.toNat * sz)) else none
  | .lst n sz' _ cs => if sz' = sz ∧ 0 ≤ i ∧ i < n then some (.pim cs (i.toNat * sz)) else none
  | _ => none
def byteA (s : ByteArray) (i : Int) : Option AV := if 0 ≤ i then match s[i.toNat]? with | some b => some (.int .u8 b.toNat) | none => none else none
def sliceA (x : AV) (l h : Nat) : Option AV :=
  match x with
  | .str s => if l ≤ h ∧ h ≤ s.size then some (.str (s.extract l h)) else none
  | .nils => if l = 0 ∧ h = 0 then some .nils else none
  | .slc id tot off len sz => if l ≤ h ∧ h ≤ len then some (.slc id tot (off + l * sz) (h - l) sz) else none
  | .lst n sz full cs => if l ≤ h ∧ h ≤ n then some (.lst (h - l) sz (full && h == n) ((cs.drop (l * sz)).take ((h - l) * sz))) else none
  | _ => none
def natA : AV → Option Nat
  | .int _ i => if 0 ≤ i then some i.toNat else none
  | _ => none

section
variable {P : Program} {B : Nat} {μ : Nat → Pl} {H : Heap} {w : World}

theorem run_underlying_some {t : TypeId} (h : (P.underlying t).isSome = true) (W : World) : ∃ d, (underlying t).run P W = .ok d W := by
  obtain ⟨d, hd⟩ := Option.isSome_iff_exists.1 h
  exact ⟨d, run_underlying hd W⟩

/-- Values that '==' takes by 'Op.equal' and no guard. -/
def plainEq : Value → Bool
  | .pointer _ => true
  | .slice _ _ _ => true
  | .func _ _ _ => true
  | .nilFunc => true
  | _ => false
theorem eqGuard_plain {xv yv : Value} (hx : plainEq xv = true) (op : BinOp) (t : TypeId) (ox oy : Operand) : (eqGuard op t ox oy xv yv).run P w = .ok () w := by
  cases xv <;> simp [plainEq] at hx <;> cases op <;> simp [eqGuard]
theorem binOp_eql_plain {xv yv : Value} (hx : plainEq xv = true) (hy : plainEq yv = true) {t : TypeId} {b : Bool} (he : (Op.equal t xv yv).run P w = .ok b w) : (binOp .eql t xv yv).run P w = .ok (.bool b) w ∧ (binOp .neq t xv yv).run P w = .ok (.bool !b) w := by
  cases xv <;> simp [plainEq] at hx <;> cases yv <;> simp [plainEq] at hy <;>
    exact ⟨by simp only [binOp, Sem.run_bind, he, Result.andThen_ok, Sem.run_pure], by simp only [binOp, Sem.run_bind, he, Result.andThen_ok, Sem.run_pure]⟩
theorem bothNil_plain {x y : AV} {xv yv : Value} (hx : VR μ H w x xv) (hy : VR μ H w y yv) {k : NilKind} {b : Bool} (h : bothNil H k x y = some b) : plainEq xv = true ∧ plainEq yv = true := by
  cases k <;> cases hx <;> cases hy <;> first
    | exact ⟨rfl, rfl⟩
    | (simp [bothNil, slNil] at h; done)
theorem st_eqnil (s : Sim B μ H w) {op : BinOp} {x y v : AV} {xv yv : Value} (hx : VR μ H w x xv) (hy : VR μ H w y yv) {t : TypeId} (ox oy : Operand) {k : NilKind} (hk : nilKind P t = some k) (h : eqNilA H k op x y = some v) :
    StepV P B μ H w (do eqGuard op t ox oy xv yv; binOp op t xv yv) v H := by
  unfold eqNilA at h
  split at h
  · rename_i b hb
    injection h with h; subst h
    have hp := bothNil_plain hx hy hb
    have he := binOp_eql_plain hp.1 hp.2 (run_equal_nil s hx hy hk hb)
    exact .pure s (by simp only [Sem.run_bind, eqGuard_plain hp.1, Result.andThen_ok, he.1]) (.bool b)
  · rename_i b hb
    injection h with h; subst h
    have hp := bothNil_plain hx hy hb
    have he := binOp_eql_plain hp.1 hp.2 (run_equal_nil s hx hy hk hb)
    exact .pure s (by simp only [Sem.run_bind, eqGuard_plain hp.1, Result.andThen_ok, he.2]) (.bool _)
  · cases h
theorem st_eqbool (s : Sim B μ H w) {op : BinOp} {a b : Bool} {t : TypeId} (ox oy : Operand) (hu : P.underlying t = some .bool) (v : Bool) (h : (op = .eql ∧ v = (a == b)) ∨ (op = .neq ∧ v = !(a == b))) :
    StepV P B μ H w (do eqGuard op t ox oy (.bool a) (.bool b); binOp op t (.bool a) (.bool b)) (.bool v) H := by
  have he : (Op.equal t (.bool a) (.bool b)).run P w = .ok (a == b) w := eq_of_in fun d => by simp only [Op.equalIn, Sem.run_bind, run_underlying hu, Result.andThen_ok, Sem.run_pure]
  rcases h with ⟨rfl, rfl⟩ | ⟨rfl, rfl⟩ <;>
  exact .pure s (by simp only [eqGuard, binOp, Sem.run_bind, he, Result.andThen_ok, Sem.run_pure, Bool.not_true, Bool.false_eq_true, ↓reduceIte]) (.bool _)

/-! #### conversions -/
theorem st_toInt (s : Sim B μ H w) {k k' : IntKind} {n : Int} {src dst : TypeId} (hs : (P.underlying src).isSome = true) (hd : P.underlying dst = some (.int k)) : StepV P B μ H w (convert src dst (.int k' n)) (.int k (k.wrap n)) H := by
  obtain ⟨d, h1⟩ := run_underlying_some (P := P) hs w
  exact .pure s (by simp only [convert, Sem.run_bind, h1, run_underlying hd, Result.andThen_ok, Conv.intToInt, Sem.run_pure]) (.int _ _)
theorem st_toStr (s : Sim B μ H w) {t : ByteArray} {src dst : TypeId} (hs : (P.underlying src).isSome = true) (hd : P.underlying dst = some .string) : StepV P B μ H w (convert src dst (.string t)) (.str t) H := by
  obtain ⟨d, h1⟩ := run_underlying_some (P := P) hs w
  exact .pure s (by simp only [convert, Sem.run_bind, h1, run_underlying hd, Result.andThen_ok, Sem.run_pure]) (.str _)
theorem VRs_bytesRow (s : ByteArray) (cap : Nat) : ∀ k (h : k < (byteVals s).length), ∃ u, (bytesRow s cap)[k]? = some u ∧ u.oneCell' = true ∧ VR μ H w (byteVals s)[k] u := by
  intro k hk
  obtain ⟨u, u1, u2, u3⟩ := (VRs_bytes (μ := μ) (H := H) (w := w) s).2 k hk
  refine ⟨u, ?_, u2, u3⟩
  unfold bytesRow
  have hk' : k < (s.data.map (fun b => Value.int .u8 b.toNat)).size := by rw [byteVals_length] at hk; simpa using hk
  rw [Array.getElem?_append_left hk', ← u1]
  simp
theorem bytesRow_size (s : ByteArray) (cap : Nat) (h : s.size ≤ cap) : (bytesRow s cap).size = cap := by
  unfold bytesRow
  simp only [Array.size_append, Array.size_map, Array.size_replicate, ByteArray.size_data]
  omega
theorem st_s2b (s : Sim B μ H w) {t : ByteArray} {src dst e : TypeId} (hs : P.underlying src = some .string) (hd : P.underlying dst = some (.slice e)) (he : P.underlying e = some (.int .u8)) :
    StepV P B μ H w (convert src dst (.string t)) (.slc H.length t.size 0 t.size 1) (H ++ [.cells e true (byteVals t)]) := by
  have hr := run_bytes_of_string w src dst e t hs hd he
  have hge := grownCap_ge w t.size 0 e
  have hsz := bytesRow_size t _ hge
  have s1 := s.drewN 1
  have k := s1.new e true (byteVals t) (bytesRow t (grownCap w t.size 0 e)) ((bytesRow t (grownCap w t.size 0 e)).size, (bytesRow t (grownCap w t.size 0 e)).size + 1) (fun k hk h => by simp at h; omega)
    (by rw [byteVals_length, hsz]; exact hge) (fun h => by cases h) (VRs_bytesRow t _)
  refine ⟨_, _, _, hr, k, (Ext.drewN 1).trans (Ext.new s1 _ _ _), .slc _ _ _ _ _ _ _ (by simp) (by rw [totAt_new, byteVals_length]; exact Nat.le_refl _) hge fun _ hc => ⟨by rw [put_same]; rfl, ?_⟩⟩
  rw [put_same]
  simp [hsz]
theorem u8sOf_ok : ∀ {cs : List AV} {ns : List Int} {us : List Value}, u8sOf cs = some ns → VRs μ H w cs us → us = ns.map (Value.int .u8)
  | [], ns, us, h, k => by simp [u8sOf] at h; subst h; simpa using k.1
  | x :: r, ns, us, h, k => by
    unfold u8sOf at h
    split at h
    · rename_i heq; cases heq
    · rename_i n r' heq
      injection heq with e1 e2; subst e1 e2
      split at h
      · rename_i l hl
        injection h with h; subst h
        cases us with
        | nil => have := k.1; simp at this
        | cons u us' =>
          have h0 := k.get 0 (by simp) (by simp)
          simp only [List.getElem_cons_zero] at h0
          cases h0
          have ih := u8sOf_ok (us := us') hl ⟨by have := k.1; simpa using this, fun i hi => by
            have := k.2 (i + 1) (by simpa using hi)
            simp only [List.getElem?_cons_succ, List.getElem_cons_succ] at this
            exact this⟩
          rw [ih]; rfl
      · cases h
    · cases h
theorem st_b2s (s : Sim B μ H w) {x : AV} {xv : Value} (hx : VR μ H w x xv) {src dst e : TypeId} (hs : P.underlying src = some (.slice e)) (hd : P.underlying dst = some .string) (he : P.underlying e = some (.int .u8)) {n : Nat} {cs : List AV} {ns : List Int}
    (h : elemsA H x 1 = some (n, cs)) (hns : u8sOf cs = some ns) (hnot : ∀ t, x ≠ .str t) : StepV P B μ H w (convert src dst xv) (.str (bytesOf ns)) H := by
  obtain ⟨h1, h2, us, h3, h4⟩ := elemsA_ok s hx h
  have hus := u8sOf_ok hns h3
  have hf := h4 P w (fun _ _ _ => rfl)
  obtain ⟨a, n', c, rfl⟩ : ∃ a n' c, xv = .slice a n' c := by
    cases hx <;> first | exact ⟨_, _, _, rfl⟩ | (simp [elemsA] at h; done) | exact (hnot _ rfl).elim
  have hn : n' = n := by have := h2 P w; simp [Builtin.lenOf] at this; exact this
  subst hn
  refine .pure s (r := .string (bytesOf ns)) ?_ (.str _)
  have hc : (convert src dst (.slice a n' c)).run P w = (Conv.bytesToString (.slice a n' c)).run P w := by
    cases a <;> simp only [convert, Sem.run_bind, run_underlying hs, run_underlying hd, run_underlying he, Result.andThen_ok]
  rw [hc]
  cases a with
  | none =>
    have : us = [] := by simp [Builtin.firstCells] at hf; first | exact hf | exact hf.symm | simpa using hf
    subst this
    have : ns = [] := by simpa using hus.symm
    subst this
    rfl
  | some ad =>
    refine run_bytesToString w ad n' c ns ?_
    simp only [Builtin.firstCells, Nat.mul_one] at hf
    rw [hf, hus]
end
end Go.Proofs.Ah

/- More operations' steps: addresses, fields, indexes, slices, make. -/
set_option linter.unusedVariables false
set_option linter.unusedSimpArgs false
namespace Go.Proofs.Ah
open Go

/-- So many elements' zero cells. -/
def zrep (zs : List AV) : Nat → List AV
  | 0 => []
  | n + 1 => zs ++ zrep zs n

section
variable {P : Program} {B : Nat} {μ : Nat → Pl} {H : Heap} {w : World}

theorem fieldP_ok {t : TypeId} {f off : Nat} {ft : TypeId} (h : fieldP P t f = some (off, ft)) : ∃ fs x, P.underlying t = some (.struct fs) ∧ fs[f]? = some x ∧ x.offset = off ∧ x.type = ft := by
  unfold fieldP at h
  split at h
  · rename_i fs hu
    split at h
    · rename_i x hx
      injection h with h
      injection h with h1 h2
      exact ⟨fs, x, hu, hx, h1, h2⟩
    · cases h
  · cases h

theorem VR.moveP (s : Sim B μ H w) {x y : AV} {xv : Value} (hx : VR μ H w x xv) {off : Nat} (h : moveA x off = some y) : ∃ a, xv = .pointer (some a) ∧ VR μ H w y (.pointer (some (a.add off))) := by
  cases hx with
  | ptr id tot idx a hid hle ha =>
    simp only [moveA] at h; injection h with h; subst h
    exact ⟨a, rfl, .ptr _ _ _ _ hid hle fun ht => by rw [ha ht, Addr.add_lit]⟩
  | pim cs k b o u hc h1 hv hown hb =>
    simp only [moveA] at h; injection h with h; subst h
    refine ⟨_, rfl, ?_⟩
    rw [Addr.add_lit, Nat.add_assoc]
    exact .pim cs (k + off) b o u hc h1 hv hown hb
  | _ => simp [moveA] at h

theorem st_faddr (s : Sim B μ H w) {x y : AV} {xv : Value} (hx : VR μ H w x xv) {t : TypeId} {f off : Nat} {ft : TypeId} (hf : fieldP P t f = some (off, ft)) {n : Nat} (hn : sizeP P ft = some n) (hn0 : n ≠ 0) (h : moveA x off = some y) :
    StepV P B μ H w (Instr.fieldAt t xv f) y H := by
  obtain ⟨fs, fx, hu, hfx, rfl, rfl⟩ := fieldP_ok hf
  obtain ⟨a, rfl, hy⟩ := hx.moveP s h
  refine .pure s ?_ hy
  simp [Instr.fieldAt, Instr.sureAddr, run_underlying hu, hfx, fieldPlace, run_sizeOf hn, hn0]

theorem run_part {ft : TypeId} {n : Nat} {agg : Bool} (hA : isAggP P ft = some agg) (hn : sizeP P ft = some n) (h1 : agg = false → n = 1) {cs : List AV} {cv : Array Value} (hs : cv.size = cs.length) (hv : ∀ i (h : i < cs.length) (h' : i < cv.size), VR μ H w cs[i] cv[i])
    {off : Nat} (hoff : off + n ≤ cs.length) {v : AV} (hm : mkA agg ((cs.drop off).take n) = some v) : ∃ r, (part ft cv off).run P w = .ok r w ∧ VR μ H w v r := by
  cases agg with
  | true =>
    simp only [mkA, ↓reduceIte] at hm; injection hm with hm; subst hm
    refine ⟨.agg (cv.extract off (off + n)), by simp [part, run_isAgg hA, run_sizeOf hn], .agg _ _ ?_ fun i h h' => ?_⟩
    · simp [hs]; omega
    · simp at h
      rw [List.getElem_take, List.getElem_drop, Array.getElem_extract]
      exact hv (off + i) (by omega) (by omega)
  | false =>
    have := h1 rfl
    subst this
    simp only [mkA, Bool.false_eq_true, ↓reduceIte] at hm
    split at hm
    · rename_i v' hl
      injection hm with hm; subst hm
      have hg : cs[off]? = some v' := by
        have := congrArg (·[0]?) hl
        simpa [List.getElem?_take, List.getElem?_drop] using this
      have hlt : off < cv.size := by omega
      refine ⟨cv[off], ?_, ?_⟩
      · simp [part, run_isAgg hA, Array.getElem?_eq_getElem hlt]
      · have := hv off (by omega) hlt
        rw [List.getElem?_eq_getElem (by omega)] at hg
        injection hg with hg
        rwa [hg] at this
    · cases hm
theorem st_field (s : Sim B μ H w) {x v : AV} {xv : Value} (hx : VR μ H w x xv) {t : TypeId} {f off : Nat} {ft : TypeId} (hf : fieldP P t f = some (off, ft)) {n : Nat} {agg : Bool} (hn : sizeP P ft = some n) (hA : isAggP P ft = some agg) (h1 : agg = false → n = 1) (h : partA x off n agg = some v) :
    StepV P B μ H w (Instr.field t xv f) v H := by
  obtain ⟨fs, fx, hu, hfx, rfl, rfl⟩ := fieldP_ok hf
  cases hx with
  | agg cs cv hs hv =>
    simp only [partA] at h
    split at h
    · rename_i hoff
      obtain ⟨r, r1, r2⟩ := run_part hA hn h1 hs hv hoff h
      refine .pure s ?_ r2
      simp [Instr.field, run_underlying hu, hfx, asAgg, r1]
    · cases h
  | _ => simp [partA] at h

theorem st_iadS (s : Sim B μ H w) {x y : AV} {xv : Value} (hx : VR μ H w x xv) {t e : TypeId} (hu : P.underlying t = some (.slice e)) {sz : Nat} (hn : sizeP P e = some sz) {k : IntKind} {i : Int} (h : elemAddrA H x i sz = some y) :
    StepV P B μ H w (Instr.indexAt t xv (.int k i)) y H := by
  cases hx with
  | slc id tot off len sz' a c hid hle hlc ha =>
    simp only [elemAddrA] at h
    split at h
    · rename_i hh
      obtain ⟨rfl, h0, hl, ht⟩ := hh
      injection h with h; subst h
      obtain ⟨rfl, hfit⟩ := ha ht (by omega)
      refine .pure s (r := .pointer (some ⟨(μ id).b, off + i.toNat * sz', none⟩)) ?_ (.ptr _ _ _ _ hid hle fun _ => rfl)
      have hc : 0 ≤ i ∧ i < (len : Int) := ⟨h0, hl⟩
      simp [Instr.indexAt, asIntOf, run_underlying hu, hc, run_sizeOf hn, Addr.add_lit]
    · cases h
  | lst n sz' full cs b o c u hn0 hl hlc hf hc h1 hv hown hb =>
    simp only [elemAddrA] at h
    split at h
    · rename_i hh
      obtain ⟨rfl, h0, hl⟩ := hh
      injection h with h; subst h
      refine .pure s (r := .pointer (some ⟨b, o + i.toNat * sz', none⟩)) ?_ (.pim cs (i.toNat * sz') b o u hc h1 hv hown hb)
      have hc : 0 ≤ i ∧ i < (n : Int) := ⟨h0, hl⟩
      simp [Instr.indexAt, asIntOf, run_underlying hu, hc, run_sizeOf hn, Addr.add_lit]
    · cases h
  | lst0 sz' full a c hf =>
    simp only [elemAddrA] at h
    split at h
    · rename_i hh; obtain ⟨_, h0, hl⟩ := hh; simp at hl; omega
    · cases h
  | _ => simp [elemAddrA] at h
theorem st_iadA (s : Sim B μ H w) {x y : AV} {xv : Value} (hx : VR μ H w x xv) {t e : TypeId} {len : Nat} (hu : P.underlying t = some (.array len e)) {sz : Nat} (hn : sizeP P e = some sz) {k : IntKind} {i : Int} (h0 : 0 ≤ i) (hl : i < len) (h : moveA x (i.toNat * sz) = some y) :
    StepV P B μ H w (Instr.indexAt t xv (.int k i)) y H := by
  obtain ⟨a, rfl, hy⟩ := hx.moveP s h
  refine .pure s ?_ hy
  have hc : 0 ≤ i ∧ i < (len : Int) := ⟨h0, hl⟩
  simp [Instr.indexAt, asIntOf, run_underlying hu, Instr.sureAddr, hc, run_sizeOf hn]
theorem st_idxS (s : Sim B μ H w) {t : ByteArray} {ty : TypeId} (hu : P.underlying ty = some .string) {k : IntKind} {i : Int} {v : AV} (h : byteA t i = some v) : StepV P B μ H w (Instr.index ty (.string t) (.int k i)) v H := by
  unfold byteA at h
  split at h
  · rename_i h0
    split at h
    · rename_i b hb
      injection h with h; subst h
      exact .pure s (by simp [Instr.index, asIntOf, run_underlying hu, h0, hb]) (.int _ _)
    · cases h
  · cases h
theorem st_idxA (s : Sim B μ H w) {x v : AV} {xv : Value} (hx : VR μ H w x xv) {t e : TypeId} {len : Nat} (hu : P.underlying t = some (.array len e)) {sz : Nat} {agg : Bool} (hn : sizeP P e = some sz) (hA : isAggP P e = some agg) (h1 : agg = false → sz = 1) {k : IntKind} {i : Int} (h0 : 0 ≤ i) (hl : i < len) (h : partA x (i.toNat * sz) sz agg = some v) :
    StepV P B μ H w (Instr.index t xv (.int k i)) v H := by
  cases hx with
  | agg cs cv hs hv =>
    simp only [partA] at h
    split at h
    · rename_i hoff
      obtain ⟨r, r1, r2⟩ := run_part hA hn h1 hs hv hoff h
      refine .pure s ?_ r2
      have hc : 0 ≤ i ∧ i < (len : Int) := ⟨h0, hl⟩
      simp [Instr.index, asIntOf, run_underlying hu, hc, run_sizeOf hn, r1]
    · cases h
  | _ => simp [partA] at h
theorem st_ext (s : Sim B μ H w) {vs : List AV} {xv : Value} (hx : VR μ H w (.tup vs) xv) {i : Nat} {v : AV} (h : vs[i]? = some v) : StepV P B μ H w (Instr.extract xv i) v H := by
  cases hx with
  | tup _ cv hs hv =>
    obtain ⟨hi, rfl⟩ := List.getElem?_eq_some_iff.1 h
    exact .pure s (by simp [Instr.extract, Array.getElem?_eq_getElem (show i < cv.size by omega)]) (hv i hi (by omega))

/-! #### slices -/
theorem run_bound {x : AV} {xv : Value} (hx : VR μ H w x xv) {n : Nat} (h : natA x = some n) {y : Nat} (hy : n ≤ y) (code : BoundsCode) : (Instr.sliceBound xv y code).run P w = .ok n w := by
  cases hx <;> simp only [natA] at h <;> first
    | cases h
    | skip
  split at h
  · rename_i k i h0
    injection h with h
    have hc : 0 ≤ i ∧ i ≤ (y : Int) := ⟨h0, by omega⟩
    simp [Instr.sliceBound, asIntOf, hc, h]
  · cases h
/-- The bounds of a slice expression: low, high, given or not. -/
def boundA (d : Nat) : Option AV → Option Nat
  | none => some d
  | some x => natA x
inductive VRo (μ : Nat → Pl) (H : Heap) (w : World) : Option AV → Option Value → Prop
  | none : VRo μ H w none none
  | some {x v} (h : VR μ H w x v) : VRo μ H w (some x) (some v)
theorem run_bounds {lo hi : Option AV} {lov hiv : Option Value} (hlo : VRo μ H w lo lov) (hhi : VRo μ H w hi hiv) {len cap l h : Nat} (h1 : boundA 0 lo = some l) (h2 : boundA len hi = some h) (hl : l ≤ h) (hh : h ≤ cap) (isS : Bool) :
    (Instr.sliceBounds isS len cap lov hiv none).run P w = .ok (l, h, cap) w := by
  cases hlo <;> cases hhi <;> simp only [boundA] at h1 h2
  · injection h1 with h1; injection h2 with h2; subst h1 h2; simp [Instr.sliceBounds]
  · rename_i hv; injection h1 with h1; subst h1; simp [Instr.sliceBounds, run_bound hv h2 hh]
  · rename_i hv; injection h2 with h2; subst h2; simp [Instr.sliceBounds, run_bound hv h1 hl]
  · rename_i x1 v1 hv x2 v2 hv'; simp [Instr.sliceBounds, run_bound hv' h2 hh, run_bound hv h1 hl]
theorem st_sliceStr (s : Sim B μ H w) {t : ByteArray} {ty : TypeId} (hu : P.underlying ty = some .string) {lo hi : Option AV} {lov hiv : Option Value} (hlo : VRo μ H w lo lov) (hhi : VRo μ H w hi hiv) {l h : Nat} (h1 : boundA 0 lo = some l) (h2 : boundA t.size hi = some h)
    (hl : l ≤ h) (hh : h ≤ t.size) : StepV P B μ H w (Instr.sliceAt ty (.string t) lov hiv none) (.str (t.extract l h)) H :=
  .pure s (by simp [Instr.sliceAt, Instr.slice, run_underlying hu, run_bounds hlo hhi h1 h2 hl hh]) (.str _)
theorem st_sliceSl (s : Sim B μ H w) {x y : AV} {xv : Value} (hx : VR μ H w x xv) {ty e : TypeId} (hu : P.underlying ty = some (.slice e)) {sz : Nat} (hn : sizeP P e = some sz) {lo hi : Option AV} {lov hiv : Option Value} (hlo : VRo μ H w lo lov) (hhi : VRo μ H w hi hiv) {len l h : Nat}
    (hlen : slenA x = some len) (h1 : boundA 0 lo = some l) (h2 : boundA len hi = some h) (hsl : sliceA x l h = some y) (hz : ∀ n sz' f cs, x = .lst n sz' f cs → sz' = sz) (hz' : ∀ i t o n sz', x = .slc i t o n sz' → sz' = sz) (hns : ∀ t, x ≠ .str t) :
    StepV P B μ H w (Instr.sliceAt ty xv lov hiv none) y H := by
  cases hx with
  | nils =>
    simp only [slenA] at hlen; injection hlen with hlen; subst hlen
    simp only [sliceA] at hsl
    split at hsl
    · rename_i hc; obtain ⟨rfl, rfl⟩ := hc
      injection hsl with hsl; subst hsl
      exact .pure s (by simp [Instr.sliceAt, Instr.slice, run_underlying hu, run_bounds hlo hhi h1 h2 (Nat.le_refl _) (Nat.le_refl _), run_sizeOf hn]) .nils
    · cases hsl
  | slc id tot off n sz' a c hid hle hlc ha =>
    obtain rfl := hz' _ _ _ _ _ rfl
    simp only [slenA] at hlen; injection hlen with hlen; subst hlen
    simp only [sliceA] at hsl
    split at hsl
    · rename_i hc
      injection hsl with hsl; subst hsl
      refine .pure s (r := .slice (if c = l then a else a.map (·.add (l * sz'))) (h - l) (c - l)) (by simp [Instr.sliceAt, Instr.slice, run_underlying hu, run_bounds hlo hhi h1 h2 hc.1 (Nat.le_trans hc.2 hlc), run_sizeOf hn])
        (.slc _ _ _ _ _ _ _ hid hle (by omega) fun ht hc0 => ?_)
      obtain ⟨rfl, hfit⟩ := ha ht (by omega)
      rw [if_neg (by omega)]
      refine ⟨by simp [Addr.add_lit], ?_⟩
      have : (c - l) * sz' + l * sz' = c * sz' := by rw [← Nat.add_mul]; congr 1; omega
      omega
    · cases hsl
  | lst0 sz' full a c hf =>
    obtain rfl := hz _ _ _ _ rfl
    simp only [slenA] at hlen; injection hlen with hlen; subst hlen
    simp only [sliceA] at hsl
    split at hsl
    · rename_i hc
      obtain ⟨hc1, hc2⟩ := hc
      have hh0 : h = 0 := by omega
      subst hh0
      have hl0 : l = 0 := by omega
      subst hl0
      injection hsl with hsl; subst hsl
      refine .pure s (r := .slice (if c = 0 then a else a.map (·.add (0 * sz'))) 0 (c - 0)) (by simp [Instr.sliceAt, Instr.slice, run_underlying hu, run_bounds hlo hhi h1 h2 (Nat.le_refl _) (Nat.zero_le _), run_sizeOf hn]) ?_
      simp only [List.drop_nil, List.take_nil, Nat.sub_self, beq_self_eq_true, Bool.and_true]
      exact .lst0 _ _ _ _ (fun hf' => by simpa using hf hf')
    · cases hsl
  | lst n sz' full cs b o c u hn0 hl hlc hf hc h1' hv hown hb =>
    obtain rfl := hz _ _ _ _ rfl
    simp only [slenA] at hlen; injection hlen with hlen; subst hlen
    simp only [sliceA] at hsl
    split at hsl
    · rename_i hcc
      injection hsl with hsl; subst hsl
      refine .pure s (r := .slice (if c = l then some ⟨b, o, none⟩ else some ((⟨b, o, none⟩ : Addr).add (l * sz'))) (h - l) (c - l)) (by simp [Instr.sliceAt, Instr.slice, run_underlying hu, run_bounds hlo hhi h1 h2 hcc.1 (Nat.le_trans hcc.2 hlc), run_sizeOf hn]) ?_
      by_cases he : h - l = 0
      · rw [he]
        simp only [Nat.zero_mul, List.take_zero]
        refine .lst0 _ _ _ _ fun hf' => ?_
        simp only [Bool.and_eq_true, beq_iff_eq] at hf'
        have := hf hf'.1
        omega
      · rw [if_neg (by omega), Addr.add_lit]
        have e1 : (h - l) * sz' + l * sz' ≤ n * sz' := by rw [← Nat.add_mul]; exact Nat.mul_le_mul_right _ (by omega)
        have hlen : ((cs.drop (l * sz')).take ((h - l) * sz')).length = (h - l) * sz' := by simp; omega
        refine .lst _ _ _ _ b (o + l * sz') _ (fun i => u (l * sz' + i)) (by omega) hlen (by omega) (fun hf' => ?_) (fun i hi => ?_) (fun i hi => ?_) (fun i hi => ?_) hown hb
        · simp only [Bool.and_eq_true, beq_iff_eq] at hf'
          have := hf hf'.1
          omega
        · rw [Nat.add_assoc]; exact hc _ (by omega)
        · exact h1' _ (by omega)
        · rw [List.getElem_take, List.getElem_drop]; exact hv _ (by omega)
    · cases hsl
  | str t => exact (hns t rfl).elim
  | _ => simp [sliceA] at hsl
/-- A slice of an array behind a pointer. -/
def slArrA (H : Heap) (x : AV) (n sz l h : Nat) : Option AV :=
  match x with
  | .ptr id tot idx => match readO H id tot with
    | some cs => if l ≤ h ∧ h ≤ n ∧ idx + n * sz ≤ cs.length then some (.slc id tot (idx + l * sz) (h - l) sz) else none
    | none => none
  | _ => none
theorem st_sliceArr (s : Sim B μ H w) {x y : AV} {xv : Value} (hx : VR μ H w x xv) {ty e : TypeId} {n : Nat} (hu : P.underlying ty = some (.array n e)) {sz : Nat} (hn : sizeP P e = some sz) {lo hi : Option AV} {lov hiv : Option Value} (hlo : VRo μ H w lo lov) (hhi : VRo μ H w hi hiv) {l h : Nat}
    (h1 : boundA 0 lo = some l) (h2 : boundA n hi = some h) (hsl : slArrA H x n sz l h = some y) : StepV P B μ H w (Instr.sliceAt ty xv lov hiv none) y H := by
  cases hx with
  | ptr id tot idx a hid hle ha =>
    simp only [slArrA] at hsl
    split at hsl
    · rename_i cs hr
      split at hsl
      · rename_i hc
        injection hsl with hsl; subst hsl
        obtain ⟨r1, r2, r3, r4, _⟩ := s.read hr
        rw [ha r2]
        refine .pure s (r := .slice (some (if n = l then ⟨(μ id).b, idx, none⟩ else (⟨(μ id).b, idx, none⟩ : Addr).add (l * sz))) (h - l) (n - l)) (by simp [Instr.sliceAt, Instr.sureAddr, run_underlying hu, run_bounds hlo hhi h1 h2 hc.1 hc.2.1, run_sizeOf hn])
          (.slc _ _ _ _ _ _ _ hid hle (by omega) fun ht hc0 => ?_)
        rw [if_neg (by omega), Addr.add_lit]
        refine ⟨rfl, ?_⟩
        have : (n - l) * sz + l * sz = n * sz := by rw [← Nat.add_mul]; congr 1; omega
        omega
      · cases hsl
    · cases hsl
  | _ => simp [slArrA] at hsl
end
end Go.Proofs.Ah

/- More operations' steps: append, copy, make, what is built, min and max, len. -/
set_option linter.unusedVariables false
set_option linter.unusedSimpArgs false
namespace Go.Proofs.Ah
open Go

/-- An element type's cells, bytes, zero cells. -/
def elemP (P : Program) (e : TypeId) : Option (Nat × Nat × List AV) :=
  match P.info? e with
  | some i => match i.zero with
    | some z => match cList z.cells.toList with
      | some zs => if zs.length = i.size ∧ 0 < i.size then some (i.size, i.bytes, zs) else none
      | none => none
    | none => none
  | none => none
/-- No text for append's zeros: the second operand's type is no integer. -/
def noZeros (P : Program) (t : TypeId) : Bool :=
  match P.underlying t with
  | some (.slice _) => true
  | some .string => true
  | _ => false

def appA (H : Heap) (e : TypeId) (x y : AV) (sz bytes : Nat) : Option (AV × Heap) :=
  match elemsA H y sz with
  | some (m, ys) =>
    if m = 0 then
      match x with
      | .nils => some (x, H)
      | .slc _ _ _ _ _ => some (x, H)
      | .lst _ _ _ _ => some (x, H)
      | _ => none
    else match x with
      | .nils => if m * bytes ≤ 140737488355328 ∧ m ≤ 9223372036854775807 then some (.slc H.length ys.length 0 m sz, H ++ [.cells e true ys]) else none
      | .lst n sz' true cs => if sz' = sz ∧ (n + m) * bytes ≤ 140737488355328 ∧ n + m ≤ 9223372036854775807 then some (.slc H.length (cs ++ ys).length 0 (n + m) sz, H ++ [.cells e true (cs ++ ys)]) else none
      | .slc id tot off n sz' => match H[id]? with
        | some (.cells t true cs) => if t = e ∧ sz' = sz ∧ off = 0 ∧ cs.length = tot ∧ n * sz = tot ∧ (n + m) * bytes ≤ 140737488355328 ∧ n + m ≤ 9223372036854775807 then
            some (.slc id (cs ++ ys).length 0 (n + m) sz, H.set id (.cells t true (cs ++ ys))) else none
        | _ => none
      | _ => none
  | none => none

def copyA (H : Heap) (x y : AV) (sz : Nat) : Option (AV × Heap) :=
  match elemsA H y sz with
  | some (m, ys) => match x with
    | .nils => some (.int .i64 0, H)
    | .slc id tot off n sz' => if sz' = sz then match writeO H id tot off (ys.take (min m n * sz)) with
      | some H' => some (.int .i64 (min m n : Nat), H')
      | none => none else none
    | _ => none
  | none => none

section
variable {P : Program} {B : Nat} {μ : Nat → Pl} {H : Heap} {w : World}

theorem elemP_ok {e : TypeId} {sz bytes : Nat} {zs : List AV} (h : elemP P e = some (sz, bytes, zs)) : ∃ i z, P.info? e = some i ∧ i.zero = some z ∧ i.size = sz ∧ i.bytes = bytes ∧ z.cells.size = sz ∧ 0 < sz ∧ zs.length = sz ∧ (∀ μ H w, VRs μ H w zs z.cells.toList) ∧ zs.all AV.one = true := by
  unfold elemP at h
  split at h
  · rename_i i hi
    split at h
    · rename_i z hz
      split at h
      · rename_i zs' hc
        split at h
        · rename_i hh
          injection h with h
          injection h with h1 h
          injection h with h2 h3
          subst h1 h2 h3
          have := (cList_ok (μ := fun _ => ⟨0, 0⟩) (H := []) (w := default) hc)
          refine ⟨i, z, hi, hz, rfl, rfl, ?_, hh.2, hh.1, fun μ H w => (cList_ok hc).1, this.2⟩
          have := this.1.1
          simp at this
          omega
        · cases h
      · cases h
    · cases h
  · cases h

theorem noZeros_ok {t : TypeId} (h : noZeros P t = true) : (∃ e, P.underlying t = some (.slice e)) ∨ P.underlying t = some .string := by
  unfold noZeros at h
  split at h
  · exact .inl ⟨_, by assumption⟩
  · exact .inr (by assumption)
  · cases h

/-- append with room. -/
theorem run_app_room {t u ty e : TypeId} {sz : Nat} (ht : P.underlying t = some (.slice e)) (hu : noZeros P u = true) (hs : sizeP P e = some sz) (W : World) (b off n cap : Nat) (x : Value) (m : Nat) (us : List Value)
    (hlen : (Builtin.lenOf x).run P W = .ok m W) (hf : (Builtin.firstCells sz m x).run P W = .ok us.toArray W) (h1 : ∀ u ∈ us, u.oneCell' = true) (hroom : n + m ≤ cap)
    (hc : ∀ j, j < us.length → (W.cell? ⟨b, off + n * sz + j, none⟩).isSome = true) (hfz : ∀ j, j < us.length → W.frozen? ⟨b, off + n * sz + j, none⟩ = false) :
    (Builtin.append_ #[t, u] ty #[.slice (some ⟨b, off, none⟩) n cap, x]).run P W = .ok (.slice (some ⟨b, off, none⟩) (n + m) cap) (W.setCells b (off + n * sz) us) := by
  have hst := run_storeCells_cells (P := P) b (off + n * sz) us 0 W (by simpa using hc) (by simpa using hfz) h1
  simp only [Nat.add_zero] at hst
  rcases noZeros_ok hu with ⟨e', hd⟩ | hd <;>
    simp [Builtin.append_, run_underlying ht, run_underlying hd, run_sizeOf hs, hlen, hroom, hf, Addr.add_lit, hst]
/-- append without room. -/
theorem run_app_grow {t u ty e : TypeId} {i : TypeInfo} {z : Value} (ht : P.underlying t = some (.slice e)) (hu : noZeros P u = true) (hi : P.info? e = some i) (hz : i.zero = some z) (W : World) (base : Option Addr) (n cap : Nat) (x : Value) (m : Nat) (os us : List Value)
    (hlen : (Builtin.lenOf x).run P W = .ok m W) (hf : (Builtin.firstCells i.size m x).run P W.drew = .ok us.toArray W.drew) (ho : (Builtin.firstCells i.size n (.slice base n cap)).run P W.drew = .ok os.toArray W.drew)
    (hg : cap < n + m) (h63 : n + m ≤ 9223372036854775807) (hb : (n + m) * i.bytes ≤ 140737488355328) :
    (Builtin.append_ #[t, u] ty #[.slice base n cap, x]).run P W =
      .ok (.slice (some ⟨W.heap.size, 0, none⟩) (n + m) (grownCap W (n + m) cap e)) (W.drew.alloc (.cells (os.toArray ++ us.toArray ++ Builtin.zeroCells z.cells (grownCap W (n + m) cap e - (n + m))) e)) := by
  have hn : ¬ (n + m ≤ cap) := by omega
  have h63' : ¬ (9223372036854775807 < ((n : Int) + (m : Int))) := by omega
  have h48' : ¬ (281474976710656 < Builtin.nextslicecap (n + m) cap * i.bytes) := by have := growslice_fits hg hb; omega
  rcases noZeros_ok hu with ⟨e', hd⟩ | hd <;>
    simp [Builtin.append_, run_underlying ht, run_underlying hd, sizeOf, typeInfo, zeroValue, hi, hz, hlen, hn, h63', h48', Question.forced, hf, ho, newRow, grownCap] <;>
    (congr 2
     apply Array.ext'
     simp [List.append_assoc])
theorem run_app_none {t u ty e : TypeId} {sz : Nat} (ht : P.underlying t = some (.slice e)) (hu : noZeros P u = true) (hs : sizeP P e = some sz) (W : World) (base : Option Addr) (n cap : Nat) (x : Value)
    (hlen : (Builtin.lenOf x).run P W = .ok 0 W) (hf : (Builtin.firstCells sz 0 x).run P W = .ok #[] W) (hnc : n ≤ cap) :
    (Builtin.append_ #[t, u] ty #[.slice base n cap, x]).run P W = .ok (.slice base n cap) W := by
  rcases noZeros_ok hu with ⟨e', hd⟩ | hd <;> cases base <;>
    simp [Builtin.append_, run_underlying ht, run_underlying hd, run_sizeOf hs, hlen, hnc, hf, storeCells]

/-- A new row of these cells and room behind, owned. -/
theorem st_newRoom (s : Sim B μ H w) (e : TypeId) {vs : List AV} {us : List Value} (hus : VRs μ H w vs us) (zs : Array Value) (n sz cap : Nat) (hn : n * sz = vs.length) (hcap : n ≤ cap) (hsz : us.toArray.size + zs.size = cap * sz) :
    ∃ μ', Sim B μ' (H ++ [.cells e true vs]) (w.alloc (.cells (us.toArray ++ zs) e)) ∧ Ext μ H w μ' (H ++ [.cells e true vs]) (w.alloc (.cells (us.toArray ++ zs) e)) ∧
      VR μ' (H ++ [.cells e true vs]) (w.alloc (.cells (us.toArray ++ zs) e)) (.slc H.length vs.length 0 n sz) (.slice (some ⟨w.heap.size, 0, none⟩) n cap) := by
  have hl : us.length = vs.length := hus.1
  refine ⟨_, s.new e true vs (us.toArray ++ zs) (0, 0) (fun k _ h => by simp at h) (by simp; omega) (fun h => by cases h) (fun k hk => ?_), Ext.new s _ _ _, ?_⟩
  · obtain ⟨u, u1, u2, u3⟩ := hus.2 k hk
    refine ⟨u, ?_, u2, u3⟩
    rw [Array.getElem?_append_left (by simp; omega)]
    simpa using u1
  · refine .slc _ _ _ _ _ _ _ (by simp) (by rw [totAt_new]; exact Nat.le_refl _) hcap fun _ _ => ⟨by rw [put_same], ?_⟩
    rw [put_same]
    simp at hsz ⊢
    omega

/-- append into a new row: what was there, and what comes. -/
theorem st_appNew (s : Sim B μ H w) {m : Sem Value} {e : TypeId} {cs ys : List AV} {os us : List Value} (hos : VRs μ H w cs os) (hus : VRs μ H w ys us) (zs : Array Value) (n sz cap : Nat) (hn : n * sz = (cs ++ ys).length) (hcap : n ≤ cap)
    (hsz : os.length + us.length + zs.size = cap * sz) (hr : m.run P w = .ok (.slice (some ⟨w.heap.size, 0, none⟩) n cap) (w.drew.alloc (.cells (os.toArray ++ us.toArray ++ zs) e))) :
    StepV P B μ H w m (.slc H.length (cs ++ ys).length 0 n sz) (H ++ [.cells e true (cs ++ ys)]) := by
  have s1 : Sim B μ H w.drew := s.drewN 1
  have E1 : Ext μ H w μ H w.drew := Ext.drewN 1
  have hh := (hos.append hus).mono E1
  obtain ⟨μ', k1, k2, k3⟩ := st_newRoom s1 e hh zs n sz cap hn hcap (by simpa using hsz)
  have ha : (os ++ us).toArray = os.toArray ++ us.toArray := by simp
  rw [ha] at k1 k2 k3
  exact ⟨_, μ', _, hr, k1, E1.trans k2, k3⟩

theorem st_append (s : Sim B μ H w) {x y v : AV} {xv yv : Value} (hx : VR μ H w x xv) (hy : VR μ H w y yv) {t u ty e : TypeId} (ht : P.underlying t = some (.slice e)) (hu : noZeros P u = true) {sz bytes : Nat} {zs : List AV} (he : elemP P e = some (sz, bytes, zs)) {H' : Heap}
    (h : appA H e x y sz bytes = some (v, H')) : StepV P B μ H w (Builtin.append_ #[t, u] ty #[xv, yv]) v H' := by
  obtain ⟨i, z, hi, hz, rfl, rfl, hzs, hpos, hzl, hz0, hz1⟩ := elemP_ok he
  have hs : sizeP P e = some i.size := by simp [sizeP, hi]
  unfold appA at h
  split at h
  case h_2 => cases h
  rename_i m ys hel
  obtain ⟨hyl, hlen, us, hus, hf⟩ := elemsA_ok s hy hel
  have hfw := hf P w (fun _ _ _ => rfl)
  have hfd := hf P w.drew (fun _ _ _ => rfl)
  split at h
  · -- nothing is appended
    rename_i hm
    subst hm
    have hus0 : us = [] := List.eq_nil_of_length_eq_zero (by rw [hus.1, hyl]; simp)
    subst hus0
    have hgen : ∀ (base : Option Addr) (n c : Nat), n ≤ c → (Builtin.append_ #[t, u] ty #[.slice base n c, yv]).run P w = .ok (.slice base n c) w :=
      fun base n c hnc => run_app_none ht hu hs w base n c yv (hlen P w) hfw hnc
    cases hx <;> (try simp only at h) <;> first
      | (cases h; done)
      | skip
    · injection h with h; injection h with h1 h2; subst h1 h2
      exact .pure s (hgen _ _ _ (Nat.le_refl _)) .nils
    · rename_i hid hle hlc ha
      injection h with h; injection h with h1 h2; subst h1 h2
      exact .pure s (hgen _ _ _ hlc) (.slc _ _ _ _ _ _ _ hid hle hlc ha)
    · rename_i hf0
      injection h with h; injection h with h1 h2; subst h1 h2
      exact .pure s (hgen _ _ _ (Nat.zero_le _)) (.lst0 _ _ _ _ hf0)
    · rename_i u' hn hl hlc hf0 hc h1 hv hown hb
      injection h with h; injection h with h1' h2; subst h1' h2
      exact .pure s (hgen _ _ _ hlc) (.lst _ _ _ _ _ _ _ _ hn hl hlc hf0 hc h1 hv hown hb)
  · rename_i hm
    have hbig : ∀ n cap, n + m ≤ 9223372036854775807 → n + m ≤ grownCap w (n + m) cap e := fun n cap _ => grownCap_ge w _ _ _
    cases hx <;> (try simp only at h) <;> first
      | (cases h; done)
      | skip
    · -- nil
      split at h
      · rename_i hh
        injection h with h; injection h with h1 h2; subst h1 h2
        have hr := run_app_grow (ty := ty) ht hu hi hz w none 0 0 yv m [] us (hlen P w) hfd (by simp [Builtin.firstCells]) (by omega) (by omega) (by simpa using hh.1)
        simp only [Nat.zero_add] at hr
        exact st_appNew s (cs := []) (os := []) VRs.nil hus _ m i.size _ (by simpa using hyl.symm) (grownCap_ge w _ _ _) (by
          have := grownCap_ge w m 0 e
          simp only [List.length_nil, Nat.zero_add, size_zeroCells, hzs, hus.1, hyl, ← Nat.add_mul]
          congr 1; omega) hr
      · cases h
    · -- an owned one
      rename_i id tot off n sz' a c hid hle hlc ha
      split at h
      case h_2 => cases h
      rename_i t' cs ho
      split at h
      case isFalse => cases h
      rename_i hh
      obtain ⟨hte, rfl, rfl, hct, hnt, hb, h63⟩ := hh
      obtain rfl := hte.symm
      injection h with h; injection h with h1 h2; subst h1 h2
      have htot : totAt H id = tot := by rw [totAt_of ho]; exact hct
      obtain ⟨arr, fz, a1, a2, a3, a4, a5, a6⟩ := s.cells id e true cs ho
      have hall : ∃ os : List Value, VRs μ H w cs os ∧ ∀ j v, os[j]? = some v → w.cell? ⟨(μ id).b, j, none⟩ = some v := by
        obtain ⟨_, _, _, _, _, os, o1, o2⟩ := s.read (id := id) (tot := tot) (cs := cs) (by unfold readO; simp [ho, hct])
        exact ⟨os, o1, o2⟩
      obtain ⟨os, hos, hoc⟩ := hall
      by_cases hroom : n + m ≤ c
      · have hc0 : c ≠ 0 := by omega
        obtain ⟨rfl, hfit⟩ := ha htot hc0
        have hfit2 : tot + ys.length ≤ (μ id).sz := by
          have e1 : (n + m) * i.size ≤ c * i.size := Nat.mul_le_mul_right _ hroom
          rw [Nat.add_mul] at e1
          omega
        have hr := run_app_room (P := P) (ty := ty) ht hu hs w (μ id).b 0 n c yv m us (hlen P w) hfw hus.one hroom
          (fun j hj => by rw [hus.1] at hj; rw [cell_of_row w _ _ arr e fz a1, Array.getElem?_eq_getElem (by omega)]; rfl)
          (fun j hj => by
            rw [hus.1] at hj
            unfold World.frozen?
            simp only [a1]
            have := a3 (0 + n * i.size + j) (by omega)
            simpa using this)
        have hsp : splice cs tot ys = cs ++ ys := by
          unfold splice
          rw [← hct, List.take_length, List.drop_of_length_le (by omega), List.append_nil]
        have k1 := s.write ho tot us ys hus.1 (by omega) hfit2 (fun h => by cases h) hus.2
        have k2 := Ext.write s ho tot us ys hus.1 (by omega)
        rw [hsp] at k1 k2
        simp only [Nat.zero_add, hnt] at hr
        refine ⟨_, μ, _, hr, k1, k2, .slc _ _ _ _ _ _ _ (by simpa using hid) (by rw [totAt_set _ hid, if_pos rfl]; exact Nat.le_refl _) hroom fun _ _ => ⟨rfl, ?_⟩⟩
        omega
      · have hbase : (Builtin.firstCells i.size n (.slice a n c)).run P w.drew = .ok os.toArray w.drew := by
          by_cases hn0 : n = 0
          · subst hn0
            have : os = [] := List.eq_nil_of_length_eq_zero (by rw [hos.1]; simp at hnt; omega)
            subst this
            cases a <;> simp [Builtin.firstCells, loadCells, loadCellsFrom]
          · obtain ⟨rfl, hfit⟩ := ha htot (by omega)
            exact run_firstCells_some (P := P) w.drew i.size n _ n c os (by rw [hos.1]; omega) fun j v hj => by rw [Addr.add_lit]; simpa using hoc j v hj
        have hr := run_app_grow (ty := ty) ht hu hi hz w a n c yv m os us (hlen P w) hfd hbase (by omega) h63 hb
        have s1 := s.drewN 1
        have hge := grownCap_ge w (n + m) c e
        have hsz : (os.toArray ++ us.toArray ++ Builtin.zeroCells z.cells (grownCap w (n + m) c e - (n + m))).size = grownCap w (n + m) c e * i.size := by
          simp only [Array.size_append, List.size_toArray, size_zeroCells, hzs, hos.1, hus.1, hyl, hct, ← hnt, ← Nat.add_mul]
          congr 1; omega
        have hlen2 : (cs ++ ys).length ≤ grownCap w (n + m) c e * i.size := by
          rw [List.length_append, hyl, hct, ← hnt, ← Nat.add_mul]; exact Nat.mul_le_mul_right _ hge
        have hym : 0 < ys.length := by rw [hyl]; exact Nat.mul_pos (by omega) hpos
        have hosus := (hos.append hus).mono (Ext.drewN (w := w) 1)
        have k1 := s1.move (t := e) (g := true) (cs := cs ++ ys) ho (os.toArray ++ us.toArray ++ Builtin.zeroCells z.cells (grownCap w (n + m) c e - (n + m))) (0, 0) (fun k _ h => by simp at h) (by simp; omega) (by rw [hsz]; exact hlen2) (fun h => by cases h) (fun k hk => by
            obtain ⟨u, u1, u2, u3⟩ := hosus.2 k hk
            refine ⟨u, ?_, u2, u3⟩
            rw [Array.getElem?_append_left (by simp [hos.1, hus.1]; simpa using hk)]
            simpa using u1)
        have k2 := Ext.move s1 (x := .cells e true (cs ++ ys)) hid (.cells (os.toArray ++ us.toArray ++ Builtin.zeroCells z.cells (grownCap w (n + m) c e - (n + m))) e) (os.toArray ++ us.toArray ++ Builtin.zeroCells z.cells (grownCap w (n + m) c e - (n + m))).size (by rw [totAt_of ho]; simp [AObj.tot]; omega)
        refine ⟨_, _, _, hr, k1, (Ext.drewN 1).trans k2, .slc _ _ _ _ _ _ _ (by simpa using hid) (by rw [totAt_set _ hid, if_pos rfl]; exact Nat.le_refl _) hge fun _ _ => ⟨by rw [put_same]; rfl, ?_⟩⟩
        rw [put_same]
        simp only [Nat.zero_add]
        exact Nat.le_of_eq hsz.symm
    · -- an empty list without room
      rename_i sz' full a c hf0
      cases full <;> simp only at h
      · cases h
      · split at h
        · rename_i hh
          obtain ⟨rfl, hb, h63⟩ := hh
          injection h with h; injection h with h1 h2; subst h1 h2
          have hc0 := hf0 rfl
          subst hc0
          have hr := run_app_grow (ty := ty) ht hu hi hz w a 0 0 yv m [] us (hlen P w) hfd (by cases a <;> simp [Builtin.firstCells, loadCells, loadCellsFrom]) (by omega) (by omega) hb
          exact st_appNew s (cs := []) (os := []) VRs.nil hus _ (0 + m) i.size _ (by simpa using hyl.symm) (grownCap_ge w _ _ _) (by
            have := grownCap_ge w (0 + m) 0 e
            simp only [List.length_nil, Nat.zero_add, size_zeroCells, hzs, hus.1, hyl, ← Nat.add_mul] at this ⊢
            congr 1; omega) hr
        · cases h
    · -- a full list
      rename_i n sz' full cs b o c u' hn hl hlc hf0 hc h1 hv hown hb
      cases full <;> simp only at h
      · cases h
      · split at h
        · rename_i hh
          obtain ⟨rfl, hbb, h63⟩ := hh
          injection h with h; injection h with h1' h2; subst h1' h2
          have hc0 := hf0 rfl
          subst hc0
          have hos : VRs μ H w cs ((List.range cs.length).map u') := ⟨by simp, fun i hi => ⟨u' i, by simp [hi], h1 i hi, hv i hi⟩⟩
          have hr := run_app_grow (ty := ty) ht hu hi hz w (some ⟨b, o, none⟩) c c yv m ((List.range cs.length).map u') us (hlen P w) hfd (by
            refine run_firstCells_some (P := P) w.drew i.size c _ c c _ (by simp [hl]) fun j v hj => ?_
            rw [Addr.add_lit]
            rw [List.getElem?_map] at hj
            have hjn : j < cs.length := by
              rcases Nat.lt_or_ge j cs.length with hl' | hl'
              · exact hl'
              · rw [List.getElem?_eq_none (by simp; omega)] at hj; simp at hj
            rw [List.getElem?_range hjn] at hj
            simp at hj
            rw [← hj]
            simpa using hc _ hjn) (by omega) h63 hbb
          exact st_appNew s hos hus _ (c + m) i.size _ (by rw [List.length_append, hl, hyl, Nat.add_mul]) (grownCap_ge w _ _ _) (by
            have := grownCap_ge w (c + m) c e
            simp only [List.length_map, List.length_range, size_zeroCells, hzs, hus.1, hyl, hl, ← Nat.add_mul] at this ⊢
            congr 1; omega) hr
        · cases h
end
end Go.Proofs.Ah

