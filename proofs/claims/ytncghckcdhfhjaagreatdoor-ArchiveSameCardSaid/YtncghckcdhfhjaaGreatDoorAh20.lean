/- The kernel's machine: operations on the memory. -/
import Derived.Test.YtncghckcdhfhjaaGreatDoorAh19
set_option linter.unusedVariables false
set_option linter.unusedSimpArgs false
namespace Go.Proofs.Ah
open Go

noncomputable def isSlc {R : Type} (v : AV) (f : Nat → Nat → Nat → Nat → Nat → R) (d : R) : R :=
  @AV.rec (fun _ => (Nat → Nat → Nat → Nat → Nat → R) → R → R) (fun _ => Unit) (fun _ _ f d => d) (fun _ f d => d) (fun _ f d => d) (fun f d => d) (fun _ _ _ f d => d) (fun _ _ _ f d => d) (fun f d => d) (fun a b c e g f d => f a b c e g) (fun _ _ _ _ _ f d => d) (fun f d => d) (fun _ _ _ f d => d) (fun f d => d) (fun _ f d => d) (fun _ _ f d => d) (fun _ _ f d => d) (fun f d => d) () (fun _ _ _ _ => ()) v f d
noncomputable def isLst {R : Type} (v : AV) (f : Nat → Nat → Bool → List AV → R) (d : R) : R :=
  @AV.rec (fun _ => (Nat → Nat → Bool → List AV → R) → R → R) (fun _ => Unit) (fun _ _ f d => d) (fun _ f d => d) (fun _ f d => d) (fun f d => d) (fun _ _ _ f d => d) (fun _ _ _ f d => d) (fun f d => d) (fun _ _ _ _ _ f d => d) (fun n z fl cs _ f d => f n z fl cs) (fun f d => d) (fun _ _ _ f d => d) (fun f d => d) (fun _ f d => d) (fun _ _ f d => d) (fun _ _ f d => d) (fun f d => d) () (fun _ _ _ _ => ()) v f d
noncomputable def eoK {R : Type} (o : EO) (f : TypeId → Bool → Nat → List AV → R) (d : R) : R := @EO.rec (fun _ => (TypeId → Bool → Nat → List AV → R) → R → R) (fun t g n cs f d => f t g n cs) (fun _ f d => d) o f d
noncomputable def objK {R : Type} (h : HS) (id : Nat) (f : TypeId → Bool → Nat → List AV → R) (d : R) : R := @Option.rec EO (fun _ => R) d (fun o => eoK o f d) (h.t.get id)
noncomputable def newR (v : Nat → AV) (h : HS) (o : EO) : RS := natK h.n fun n => .new (v n) ⟨h.t.put n o, Nat.succ n⟩
noncomputable def nthR (l : List AV) (i : Nat) : RS := @Option.rec AV (fun _ => RS) .no (fun v => .same v) (nth l i)
theorem nthR_some {l : List AV} {i : Nat} {v : AV} (h : l[i]? = some v) : nthR l i = .same v := by unfold nthR; rw [nth_eq, h]
theorem nthR_none {l : List AV} {i : Nat} (h : l[i]? = none) : nthR l i = .no := by unfold nthR; rw [nth_eq, h]

section
variable {lo : Nat} {h : HS} {H : Heap}
theorem objK_cases {R : Type} (r : Rep h H) (id : Nat) (f : TypeId → Bool → Nat → List AV → R) (d : R) :
    (∃ t g cs, H[id]? = some (.cells t g cs) ∧ objK h id f d = f t g cs.length cs ∧ h.t.get id = some (.cells t g cs.length cs)) ∨ ((∀ t g cs, H[id]? ≠ some (.cells t g cs)) ∧ objK h id f d = d) := by
  unfold objK
  have hg := r.get id
  cases hi : h.t.get id with
  | none =>
    rw [hi] at hg
    exact .inr ⟨fun t g cs e => (by rw [← hg] at e; cases e), rfl⟩
  | some o =>
    have hk := r.ok id o hi
    rw [hi] at hg
    cases o with
    | map es => exact .inr ⟨fun t g cs e => (by rw [← hg] at e; simp [EO.obj] at e), rfl⟩
    | cells t g n cs =>
      have hk : n = cs.length := hk
      subst hk
      exact .inl ⟨t, g, cs, hg.symm, rfl, rfl⟩
theorem newR_ok (r : Rep h H) (hl : lo ≤ h.n) (v : Nat → AV) (o : EO) (ho : o.ok) : OkOp lo H (some (v H.length, H ++ [o.obj])) (newR v h o) := by
  unfold newR
  rw [natK_eq, ← r.len]
  exact ⟨_, by have := r.new ho; unfold newH at this; rwa [← r.len] at this, rfl, .new r hl _⟩
theorem setR_ok (r : Rep h H) {id : Nat} {o o' : EO} (hi : h.t.get id = some o') (hl : lo ≤ id) (v : AV) (ho : o.ok) : OkOp lo H (some (v, H.set id o.obj)) (.new v (setH h id o)) :=
  ⟨_, r.set hi ho, rfl, .set hl _⟩

noncomputable def readF (h : HS) (id tot : Nat) : Option (List AV) := objK h id (fun _ _ n cs => sel (Nat.beq n tot) (some cs) none) none
theorem readF_eq (r : Rep h H) (id tot : Nat) : readF h id tot = readO H id tot := by
  unfold readF
  rcases objK_cases r id (fun _ _ n cs => sel (Nat.beq n tot) (some cs) none) none with ⟨t, g, cs, e1, e2, _⟩ | ⟨e1, e2⟩
  · rw [e2, sel_beq]; unfold readO; rw [e1]
  · rw [e2]; unfold readO
    split
    · rename_i t g cs hh; exact (e1 _ _ _ hh).elim
    · rfl
noncomputable def totF (h : HS) (id : Nat) : Nat := objK h id (fun _ _ n _ => n) 0
theorem totF_eq (r : Rep h H) (id : Nat) : totF h id = totAt H id := by
  unfold totF
  rcases objK_cases r id (fun _ _ n _ => n) 0 with ⟨t, g, cs, e1, e2, _⟩ | ⟨e1, e2⟩
  · rw [e2, totAt_of e1]; rfl
  · rw [e2]; unfold totAt
    cases hh : H[id]? with
    | none => rfl
    | some o =>
      cases o with
      | map es => rfl
      | cells t g cs => exact (e1 _ _ _ hh).elim

/-! #### reading -/
noncomputable def isMem {R : Type} (x : AV) (f : Nat → Nat → Nat → R) (g : List AV → Nat → R) (d : R) : R :=
  @AV.rec (fun _ => (Nat → Nat → Nat → R) → (List AV → Nat → R) → R → R) (fun _ => Unit) (fun _ _ f g d => d) (fun _ f g d => d) (fun _ f g d => d) (fun f g d => d) (fun id tot idx f g d => f id tot idx) (fun cs k _ f g d => g cs k) (fun f g d => d) (fun _ _ _ _ _ f g d => d) (fun _ _ _ _ _ f g d => d) (fun f g d => d) (fun _ _ _ f g d => d) (fun f g d => d) (fun _ f g d => d) (fun _ _ f g d => d) (fun _ _ f g d => d) (fun f g d => d) () (fun _ _ _ _ => ()) x f g d
noncomputable def load1F (h : HS) (x : AV) : RS := isMem x (fun id tot idx => objK h id (fun _ _ m cs => sel (Nat.beq m tot) (nthR cs idx) .no) .no) (fun cs k => nthR cs k) .no
noncomputable def loadAgg (n : Nat) (h : HS) (x : AV) : RS := isMem x
  (fun id tot idx => objK h id (fun _ _ m cs => sel (Nat.beq m tot) (sel (Nat.ble (Nat.add idx n) m) (.same (.agg ((cs.drop idx).take n))) .no) .no) .no)
  (fun cs k => sel (Nat.ble (Nat.add k n) (lenF cs)) (.same (.agg ((cs.drop k).take n))) .no) .no
noncomputable def loadF (n : Nat) (agg : Bool) (h : HS) (x : AV) : RS := sel agg (loadAgg n h x) (sel (Nat.beq n 1) (load1F h x) .no)
theorem loadF_ok (r : Rep h H) (n : Nat) (agg : Bool) (x : AV) : OkOp lo H (loadK H x n agg) (loadF n agg h x) := by
  unfold loadF
  rw [sel_eq]
  split
  · rename_i ha; subst ha
    cases x <;> try trivial
    case ptr id tot idx =>
      show OkOp lo H _ (objK h id _ _)
      rcases objK_cases r id (fun _ _ m cs => sel (Nat.beq m tot) (sel (Nat.ble (Nat.add idx n) m) (RS.same (.agg ((cs.drop idx).take n))) .no) .no) RS.no with ⟨t, g, cs, e1, e2, _⟩ | ⟨e1, e2⟩
      · rw [e2, sel_beq]
        split
        · rename_i ht
          rw [sel_ble]
          split
          · rename_i hle
            rw [loadK_n, e1]
            exact loadN_cells ht (by rw [← ht]; exact hle)
          · trivial
        · trivial
      · rw [e2]; trivial
    case pim cs k =>
      show OkOp lo H _ (sel _ _ _)
      rw [sel_ble, lenF_eq]
      split
      · rename_i hle; exact loadK_pimN cs k n hle
      · trivial
  · rename_i ha
    have ha : agg = false := by simpa using ha
    subst ha
    rw [sel_beq]
    split
    · rename_i hn; subst hn
      cases x <;> try trivial
      case ptr id tot idx =>
        show OkOp lo H _ (objK h id _ _)
        rcases objK_cases r id (fun _ _ m cs => sel (Nat.beq m tot) (nthR cs idx) .no) RS.no with ⟨t, g, cs, e1, e2, _⟩ | ⟨e1, e2⟩
        · rw [e2, sel_beq]
          split
          · rename_i ht
            cases hv : cs[idx]? with
            | none => rw [nthR_none hv]; trivial
            | some v =>
              rw [nthR_some hv, loadK_1, e1]
              show load1 _ _ _ _ = _
              rw [load1_cells ht, hv]; rfl
          · trivial
        · rw [e2]; trivial
      case pim cs k =>
        show OkOp lo H _ (nthR cs k)
        cases hv : cs[k]? with
        | none => rw [nthR_none hv]; trivial
        | some v =>
          rw [nthR_some hv]
          show loadK _ _ _ _ = _
          rw [loadK_pim1, hv]; rfl
    · trivial

noncomputable def bytesF (l : List UInt8) : List AV := @List.rec UInt8 (fun _ => List AV) [] (fun b _ ih => .int .u8 (.ofNat b.toNat) :: ih) l
theorem bytesF_eq (l : List UInt8) : bytesF l = l.map fun b => AV.int .u8 b.toNat := by
  induction l with
  | nil => rfl
  | cons b r ih =>
    show AV.int .u8 (.ofNat b.toNat) :: bytesF r = _
    rw [ih]; rfl
noncomputable def elemsF (h : HS) (x : AV) (sz : Nat) : Option (Nat × List AV) :=
  match x with
  | .nils => some (0, [])
  | .lst n sz' _ cs => sel (Nat.beq sz' sz) (some (n, cs)) none
  | .slc id tot off len sz' => sel (Nat.beq sz' sz) (objK h id (fun _ _ m cs => sel (Nat.beq m tot) (sel (Nat.ble (Nat.add off (Nat.mul len sz)) m) (some (len, (cs.drop off).take (len * sz))) none) none) none) none
  | .str s => sel (Nat.beq sz 1) (some (lenF s.data.toList, bytesF s.data.toList)) none
  | _ => none
theorem elemsF_eq (r : Rep h H) (x : AV) (sz : Nat) : elemsF h x sz = elemsA H x sz := by
  cases x <;> try rfl
  case lst n sz' f cs => exact sel_beq _ _ _ _
  case str s =>
    show sel _ _ _ = _
    rw [sel_beq, lenF_eq, bytesF_eq]
    simp only [elemsA, byteVals]
    rw [show s.data.toList.length = s.size from Array.length_toList]
  case slc id tot off len sz' =>
    show sel _ _ _ = _
    rw [sel_beq]
    simp only [elemsA]
    split
    · rcases objK_cases r id (fun _ _ m cs => sel (Nat.beq m tot) (sel (Nat.ble (Nat.add off (Nat.mul len sz)) m) (some (len, (cs.drop off).take (len * sz))) none) none) none with ⟨t, g, cs, e1, e2, _⟩ | ⟨e1, e2⟩
      · rw [e2, sel_beq]
        simp only [readO, e1]
        split
        · rw [sel_ble]; rfl
        · rfl
      · rw [e2]
        have : readO H id tot = none := by
          unfold readO
          split
          · rename_i t g cs hh; exact (e1 _ _ _ hh).elim
          · rfl
        rw [this]
    · rfl

/-! #### writing -/
noncomputable def writeF (lo : Nat) (h : HS) (id tot idx : Nat) (vs : List AV) (v : AV) : RS := objK h id (fun t g m cs => sel (Nat.ble lo id) (sel (Nat.beq m tot) (sel (Nat.ble (Nat.add idx (lenF vs)) m) (sel (vs.all AV.one) (.new v (setH h id (.cells t g m (splice cs idx vs)))) .no) .no) .no) .no) .no
theorem writeF_ok (r : Rep h H) (id tot idx : Nat) (vs : List AV) (v : AV) : OkOp lo H ((writeO H id tot idx vs).map fun H' => (v, H')) (writeF lo h id tot idx vs v) := by
  unfold writeF
  rcases objK_cases r id (fun t g m cs => sel (Nat.ble lo id) (sel (Nat.beq m tot) (sel (Nat.ble (Nat.add idx (lenF vs)) m) (sel (vs.all AV.one) (RS.new v (setH h id (.cells t g m (splice cs idx vs)))) .no) .no) .no) .no) RS.no with ⟨t, g, cs, e1, e2, e3⟩ | ⟨e1, e2⟩
  · rw [e2, sel_ble]
    split
    · rename_i hlo
      rw [sel_beq]
      split
      · rename_i ht
        rw [sel_ble, lenF_eq]
        split
        · rename_i hle
          rw [sel_eq]
          split
          · rename_i h1
            have hle : idx + vs.length ≤ cs.length := hle
            have := setR_ok (lo := lo) r e3 hlo v (o := .cells t g cs.length (splice cs idx vs)) (by show cs.length = _; rw [splice_length _ _ _ (by omega)]; omega)
            simp only [writeO, e1, if_pos (And.intro ht (And.intro hle h1)), Option.map_some]
            exact this
          · trivial
        · trivial
      · trivial
    · trivial
  · rw [e2]; trivial
noncomputable def store1F (lo : Nat) (h : HS) (id tot idx : Nat) (y : AV) : RS := objK h id (fun t g m cs => sel (Nat.ble lo id) (sel (Nat.beq m tot) (sel (Nat.blt idx m) (.new .undef (setH h id (.cells t g m (setL cs y idx)))) .no) .no) .no) .no
theorem store1F_ok (r : Rep h H) (id tot idx : Nat) (y : AV) (hy : y.one = true) : OkOp lo H (storeK H 1 (.ptr id tot idx) y) (store1F lo h id tot idx y) := by
  unfold store1F
  rcases objK_cases r id (fun t g m cs => sel (Nat.ble lo id) (sel (Nat.beq m tot) (sel (Nat.blt idx m) (RS.new .undef (setH h id (.cells t g m (setL cs y idx)))) .no) .no) .no) RS.no with ⟨t, g, cs, e1, e2, e3⟩ | ⟨e1, e2⟩
  · rw [e2, sel_ble]
    split
    · rename_i hlo
      rw [sel_beq]
      split
      · rename_i ht
        rw [sel_blt]
        split
        · rename_i hlt
          rw [storeK_1 _ _ _ _ hy, e1, store1_cells' ht (by omega), setL_eq]
          exact setR_ok r e3 hlo .undef (o := .cells t g cs.length (cs.set idx y)) (by show cs.length = _; simp)
        · trivial
      · trivial
    · trivial
  · rw [e2]; trivial
noncomputable def isPtr {R : Type} (v : AV) (f : Nat → Nat → Nat → R) (d : R) : R :=
  @AV.rec (fun _ => (Nat → Nat → Nat → R) → R → R) (fun _ => Unit) (fun _ _ f d => d) (fun _ f d => d) (fun _ f d => d) (fun f d => d) (fun id tot idx f d => f id tot idx) (fun _ _ _ f d => d) (fun f d => d) (fun _ _ _ _ _ f d => d) (fun _ _ _ _ _ f d => d) (fun f d => d) (fun _ _ _ f d => d) (fun f d => d) (fun _ f d => d) (fun _ _ f d => d) (fun _ _ f d => d) (fun f d => d) () (fun _ _ _ _ => ()) v f d
noncomputable def isAgg {R : Type} (v : AV) (f : List AV → R) (d : R) : R :=
  @AV.rec (fun _ => (List AV → R) → R → R) (fun _ => Unit) (fun _ _ f d => d) (fun _ f d => d) (fun _ f d => d) (fun f d => d) (fun _ _ _ f d => d) (fun _ _ _ f d => d) (fun f d => d) (fun _ _ _ _ _ f d => d) (fun _ _ _ _ _ f d => d) (fun f d => d) (fun _ _ _ f d => d) (fun f d => d) (fun _ f d => d) (fun cs _ f d => f cs) (fun _ _ f d => d) (fun f d => d) () (fun _ _ _ _ => ()) v f d
noncomputable def storeF (n : Nat) (lo : Nat) (h : HS) (x y : AV) : RS := isPtr x (fun id tot idx => sel y.one (sel (Nat.beq n 1) (store1F lo h id tot idx y) .no) (isAgg y (fun vs => sel (Nat.beq (lenF vs) n) (writeF lo h id tot idx vs .undef) .no) .no)) .no
theorem storeF_ok (r : Rep h H) (n : Nat) (x y : AV) : OkOp lo H (storeK H n x y) (storeF n lo h x y) := by
  cases x <;> try trivial
  case ptr id tot idx =>
    show OkOp lo H _ (sel _ _ _)
    rw [sel_eq]
    split
    · rename_i hy
      rw [sel_beq]
      split
      · rename_i hn; subst hn; exact store1F_ok r _ _ _ _ hy
      · trivial
    · rename_i hy
      cases y <;> try trivial
      case agg vs =>
        show OkOp lo H _ (sel _ _ _)
        rw [sel_beq, lenF_eq]
        split
        · rename_i hn
          have hn : (AV.agg vs).cells.length = n := hn
          have := writeF_ok (lo := lo) r id tot idx vs .undef
          simp only [storeK, if_pos hn]
          show OkOp lo H (match writeO H id tot idx vs with | some H' => some (AV.undef, H') | none => none) _
          cases hw : writeO H id tot idx vs with
          | none => rw [hw] at this; exact this
          | some H' => rw [hw] at this; exact this
        · trivial

/-! #### making -/
noncomputable def allocF (t : TypeId) (zs : List AV) (h : HS) : RS := newR (fun n => .ptr n (lenF zs) 0) h (.cells t false (lenF zs) zs)
theorem allocF_ok (r : Rep h H) (hl : lo ≤ h.n) (t : TypeId) (zs : List AV) : OkOp lo H (some (.ptr H.length zs.length 0, H ++ [.cells t false zs])) (allocF t zs h) := by
  have := newR_ok (lo := lo) r hl (fun n => .ptr n (lenF zs) 0) (.cells t false (lenF zs) zs) (lenF_eq zs)
  simp only [lenF_eq] at this
  unfold allocF
  simp only [lenF_eq]
  exact this
noncomputable def boxF (t : TypeId) (y : AV) (h : HS) : RS := sel y.one (newR (fun n => .ptr n 1 0) h (.cells t false 1 [y])) (isAgg y (fun vs => sel (vs.all AV.one) (allocF t vs h) .no) .no)
theorem boxF_ok (r : Rep h H) (hl : lo ≤ h.n) (t : TypeId) (y : AV) : OkOp lo H (boxA t y H) (boxF t y h) := by
  unfold boxF
  rw [sel_eq]
  split
  · rename_i hy
    rw [boxA_one t y hy]
    exact newR_ok r hl (fun n => .ptr n 1 0) (.cells t false 1 [y]) rfl
  · rename_i hy
    cases y <;> try trivial
    case agg vs =>
      show OkOp lo H _ (sel _ _ _)
      rw [sel_eq]
      split
      · rename_i h1
        rw [boxA_agg t vs h1]
        exact allocF_ok r hl t vs
      · trivial
noncomputable def s2bF (e : TypeId) (x : AV) (h : HS) : RS := isStr x (fun l => newR (fun n => .slc n (lenF l) 0 (lenF l) 1) h (.cells e true (lenF l) (bytesF l))) .no
theorem s2bF_ok (r : Rep h H) (hl : lo ≤ h.n) (e : TypeId) (x : AV) : OkOp lo H (s2bA e x H) (s2bF e x h) := by
  cases x <;> try trivial
  case str s =>
    have hs : s.data.toList.length = s.size := Array.length_toList
    have := newR_ok (lo := lo) r hl (fun n => .slc n (lenF s.data.toList) 0 (lenF s.data.toList) 1) (.cells e true (lenF s.data.toList) (bytesF s.data.toList)) (by show lenF _ = _; rw [lenF_eq, bytesF_eq]; simp)
    simp only [lenF_eq, hs] at this
    simp only [s2bF, isStr, lenF_eq, hs]
    have e2 : EO.obj (.cells e true s.size (bytesF s.data.toList)) = .cells e true (byteVals s) := by
      show AObj.cells e true _ = _
      rw [bytesF_eq]; rfl
    rw [e2] at this
    exact this
noncomputable def litF (e : TypeId) (n sz : Nat) (cs : Option (List AV)) (h : HS) : RS := @Option.rec (List AV) (fun _ => RS) .no (fun cs => sel (Nat.beq (lenF cs) (Nat.mul n sz)) (newR (fun m => .slc m (lenF cs) 0 n sz) h (.cells e true (lenF cs) cs)) .no) cs
theorem litF_ok (r : Rep h H) (hl : lo ≤ h.n) (e : TypeId) (n sz : Nat) (cs : Option (List AV)) : OkOp lo H (litA true e n sz cs H) (litF e n sz cs h) := by
  cases cs with
  | none => trivial
  | some cs =>
    show OkOp lo H _ (sel _ _ _)
    rw [sel_beq, lenF_eq]
    split
    · rename_i hn
      rw [litA_true _ _ _ _ hn]
      exact newR_ok r hl (fun m => .slc m cs.length 0 n sz) (.cells e true cs.length cs) rfl
    · trivial
noncomputable def mksF (e : TypeId) (sz bytes : Nat) (zs : List AV) (l c : AV) (h : HS) : RS := isNat l (fun _ l => isNat c (fun _ c => sel (Nat.ble l c) (sel (Nat.ble (Nat.mul bytes c) 281474976710656) (sel (Nat.ble c 9223372036854775807)
  (newR (fun n => .slc n (Nat.mul l sz) 0 l sz) h (.cells e true (lenF (zrep zs l)) (zrep zs l))) .no) .no) .no) .no) .no
theorem mksF_ok (r : Rep h H) (hl : lo ≤ h.n) (e : TypeId) (sz bytes : Nat) (zs : List AV) (l c : AV) : OkOp lo H (mksA e sz bytes zs l c H) (mksF e sz bytes zs l c h) := by
  cases l <;> try trivial
  case int k l =>
    cases l <;> try trivial
    case ofNat l =>
      cases c <;> try trivial
      case int k' c =>
        cases c <;> try trivial
        case ofNat c =>
          show OkOp lo H _ (sel _ _ _)
          rw [sel_ble]
          split
          · rename_i h1
            rw [sel_ble]
            split
            · rename_i h2
              rw [sel_ble]
              split
              · rename_i h3
                have := mksA_nat (H := H) (k := k) (k' := k') e sz bytes zs l c h1 h2 h3
                rw [show mksA e sz bytes zs (.int k (.ofNat l)) (.int k' (.ofNat c)) H = _ from this]
                exact newR_ok r hl (fun n => .slc n (Nat.mul l sz) 0 l sz) (.cells e true (lenF (zrep zs l)) (zrep zs l)) (lenF_eq _)
              · trivial
            · trivial
          · trivial
noncomputable def isNils (v : AV) (r : RS) : RS := match v with
  | .nils => r
  | _ => .no
noncomputable def appMF (e : TypeId) (sz bytes : Nat) (zs : List AV) (x n : AV) (h : HS) : RS := isNils x (isNat n (fun _ l => sel (Nat.ble 1 l) (sel (Nat.ble (Nat.mul l bytes) 140737488355328) (sel (Nat.ble l 9223372036854775807)
  (newR (fun n => .slc n (Nat.mul l sz) 0 l sz) h (.cells e true (lenF (zrep zs l)) (zrep zs l))) .no) .no) .no) .no)
theorem appMF_ok (r : Rep h H) (hl : lo ≤ h.n) (e : TypeId) (sz bytes : Nat) (zs : List AV) (x n : AV) : OkOp lo H (appMA H e sz bytes zs x n) (appMF e sz bytes zs x n h) := by
  cases x <;> try trivial
  cases n <;> try trivial
  case int k l =>
    cases l <;> try trivial
    case ofNat l =>
      show OkOp lo H _ (sel _ _ _)
      rw [sel_ble]
      split
      · rename_i h1
        rw [sel_ble]
        split
        · rename_i h2
          rw [sel_ble]
          split
          · rename_i h3
            have h2 : l * bytes ≤ 140737488355328 := h2
            have : appMA H e sz bytes zs .nils (.int k (.ofNat l)) = some (.slc H.length (l * sz) 0 l sz, H ++ [.cells e true (zrep zs l)]) := by
              have h4 := Int.ofNat_le.2 h2
              rw [Int.natCast_mul] at h4
              have hc : (0 : Int) < Int.ofNat l ∧ Int.ofNat l * (bytes : Int) ≤ 140737488355328 ∧ Int.ofNat l ≤ 9223372036854775807 := ⟨by simp; omega, by simpa using h4, by simp; omega⟩
              simp only [appMA, if_pos hc]; rfl
            rw [this]
            exact newR_ok r hl (fun n => .slc n (Nat.mul l sz) 0 l sz) (.cells e true (lenF (zrep zs l)) (zrep zs l)) (lenF_eq _)
          · trivial
        · trivial
      · trivial
noncomputable def u8F (cs : List AV) : Option (List UInt8) := @List.rec AV (fun _ => Option (List UInt8)) (some [])
  (fun v _ ih => isInt v (fun k a => sel (Nat.beq (kno k) 4) (@Option.rec (List UInt8) (fun _ => Option (List UInt8)) none (fun l => some (UInt8.ofNat a.toNat :: l)) ih) none) none) cs
theorem u8F_eq : ∀ cs : List AV, u8F cs = (u8sOf cs).map (·.map fun n => UInt8.ofNat n.toNat)
  | [] => rfl
  | v :: r => by
    have ih := u8F_eq r
    show isInt v (fun k a => sel (Nat.beq (kno k) 4) (@Option.rec (List UInt8) (fun _ => Option (List UInt8)) none (fun l => some (UInt8.ofNat a.toNat :: l)) (u8F r)) none) none = _
    rw [ih]
    cases v <;> try rfl
    case int k a =>
      cases k <;> try rfl
      simp only [u8sOf]
      cases u8sOf r <;> rfl
theorem bytesOf_eq (ns : List Int) : bytesOf ns = strOf (ns.map fun n => UInt8.ofNat n.toNat) := by
  have key : ∀ (ns : List Int) (r : ByteArray), ns.foldl (fun r n => r.push (UInt8.ofNat n.toNat)) r = strOf (r.data.toList ++ ns.map fun n => UInt8.ofNat n.toNat) := by
    intro ns
    induction ns with
    | nil => intro r; simp [strOf]
    | cons n ns ih =>
      intro r
      rw [List.foldl_cons, ih]
      congr 1
      simp [ByteArray.push]
  have := key ns ByteArray.empty
  simpa [bytesOf] using this
noncomputable def b2sF (x : AV) (h : HS) : RS := isStr x (fun _ => .no) (match elemsF h x 1 with
  | some p => @Option.rec (List UInt8) (fun _ => RS) .no (fun l => .same (.str (strOf l))) (u8F p.2)
  | none => .no)
theorem b2sF_ok (r : Rep h H) (x : Arg) (fr : AFrame) : OkOp lo H (opS (.b2s x) fr H) (b2sF (x.ev fr) h) := by
  simp only [opS]
  generalize x.ev fr = v
  unfold b2sF
  rw [elemsF_eq r]
  by_cases hs : isStrA v = true
  · cases v <;> simp [isStrA] at hs
    trivial
  · rw [if_neg hs]
    have : isStr (R := RS) v (fun _ => .no) (match elemsA H v 1 with
        | some p => @Option.rec (List UInt8) (fun _ => RS) .no (fun l => .same (.str (strOf l))) (u8F p.2)
        | none => .no) = (match elemsA H v 1 with
        | some p => @Option.rec (List UInt8) (fun _ => RS) .no (fun l => .same (.str (strOf l))) (u8F p.2)
        | none => .no) := by
      cases v <;> first | rfl | simp [isStrA] at hs
    rw [this]
    cases elemsA H v 1 with
    | none => trivial
    | some p =>
      obtain ⟨n, cs⟩ := p
      simp only [u8F_eq]
      cases u8sOf cs with
      | none => trivial
      | some ns =>
        show some _ = _
        rw [bytesOf_eq]

/-! #### tests, addresses, slices -/
noncomputable def slNilF (h : HS) : AV → Option Bool
  | .nils => some true
  | .slc id tot _ len _ => if 0 < len ∧ totF h id = tot then some false else none
  | .lst n _ _ _ => if 0 < n then some false else none
  | _ => none
theorem slNilF_eq (r : Rep h H) : slNilF h = slNil H := by
  funext v
  cases v <;> try rfl
  case slc => simp only [slNilF, slNil, totF_eq r]
def bothNilG (sn : AV → Option Bool) (k : NilKind) (x y : AV) : Option Bool :=
  match k, x, y with
  | .ptr, .nilp, .nilp => some true
  | .ptr, .nilp, .ptr _ _ _ => some false
  | .ptr, .nilp, .pim _ _ => some false
  | .ptr, .ptr _ _ _, .nilp => some false
  | .ptr, .pim _ _, .nilp => some false
  | .slice, .nils, .nils => some true
  | .slice, .nils, y => sn y
  | .slice, x, .nils => sn x
  | .func, .nilf, .nilf => some true
  | .func, .nilf, .fn _ _ => some false
  | .func, .fn _ _, .nilf => some false
  | _, _, _ => none
theorem bothNilG_eq (k : NilKind) (x y : AV) : bothNilG (slNil H) k x y = bothNil H k x y := by
  unfold bothNil bothNilG
  rfl
noncomputable def eqnF (h : HS) (k : NilKind) (op : BinOp) (x y : AV) : RS :=
  match op, bothNilG (slNilF h) k x y with
  | .eql, some b => boolR b
  | .neq, some b => boolR !b
  | _, _ => .no
theorem eqnF_ok (r : Rep h H) (k : NilKind) (op : BinOp) (x y : AV) : OkOp lo H (same H (eqNilA H k op x y)) (eqnF h k op x y) := by
  unfold eqnF eqNilA
  rw [slNilF_eq r, bothNilG_eq]
  cases bothNil H k x y with
  | none => cases op <;> trivial
  | some b =>
    cases op <;> first
      | trivial
      | (simp only [boolR_eq]; rfl)
noncomputable def iadSF (sz : Nat) (h : HS) (x i : AV) : RS := isNat i (fun _ j => isSlc x
  (fun id tot off len sz' => sel (Nat.beq sz' sz) (sel (Nat.blt j len) (sel (Nat.beq (totF h id) tot) (natK (Nat.add off (Nat.mul j sz)) fun p => .same (.ptr id tot p)) .no) .no) .no)
  (isLst x (fun n sz' _ cs => sel (Nat.beq sz' sz) (sel (Nat.blt j n) (natK (Nat.mul j sz) fun p => .same (.pim cs p)) .no) .no) .no)) .no
theorem iadSF_ok (r : Rep h H) (sz : Nat) (x i : AV) : OkOp lo H (iadSA H x i sz) (iadSF sz h x i) := by
  cases i <;> try trivial
  case int k i =>
    cases i <;> try trivial
    case ofNat j =>
      cases x <;> try trivial
      case slc id tot off len sz' =>
        show OkOp lo H _ (sel _ _ _)
        rw [sel_beq]
        split
        · rename_i h1; subst h1
          rw [sel_blt]
          split
          · rename_i h2
            rw [sel_beq]
            split
            · rename_i h3
              rw [natK_eq]
              exact iadSA_slc (k := k) h2 (by rw [← totF_eq r]; exact h3)
            · trivial
          · trivial
        · trivial
      case lst n sz' f cs =>
        show OkOp lo H _ (sel _ _ _)
        rw [sel_beq]
        split
        · rename_i h1; subst h1
          rw [sel_blt]
          split
          · rename_i h2
            rw [natK_eq]
            exact iadSA_lst (k := k) h2
          · trivial
        · trivial
noncomputable def moveF (x : AV) (off : Nat) : RS := isMem x (fun id tot idx => natK (Nat.add idx off) fun p => .same (.ptr id tot p)) (fun cs k => natK (Nat.add k off) fun p => .same (.pim cs p)) .no
theorem moveF_ok (x : AV) (off : Nat) : OkOp lo H (same H (moveA x off)) (moveF x off) := by
  cases x <;> try trivial
  case ptr => simp only [moveF, isMem, natK_eq]; rfl
  case pim => simp only [moveF, isMem, natK_eq]; rfl
noncomputable def iadAF (n sz : Nat) (x i : AV) : RS := isNat i (fun _ j => sel (Nat.blt j n) (moveF x (Nat.mul j sz)) .no) .no
theorem iadAF_ok (n sz : Nat) (x i : AV) : OkOp lo H (iadAA n sz x i H) (iadAF n sz x i) := by
  cases i <;> try trivial
  case int k i =>
    cases i <;> try trivial
    case ofNat j =>
      show OkOp lo H _ (sel _ _ _)
      rw [sel_blt]
      split
      · rename_i h1
        rw [show iadAA n sz x (.int k (.ofNat j)) H = _ from iadAA_nat (k := k) h1]
        exact moveF_ok _ _
      · trivial
noncomputable def partF (x : AV) (off n : Nat) (agg : Bool) : RS := isAgg x (fun cs => sel agg (sel (Nat.ble (Nat.add off n) (lenF cs)) (.same (.agg ((cs.drop off).take n))) .no) (sel (Nat.beq n 1) (nthR cs off) .no)) .no
theorem partF_ok (x : AV) (off n : Nat) (agg : Bool) : OkOp lo H (same H (partA x off n agg)) (partF x off n agg) := by
  cases x <;> try trivial
  case agg cs =>
    show OkOp lo H _ (sel _ _ _)
    rw [sel_eq]
    split
    · rename_i ha; subst ha
      rw [sel_ble, lenF_eq]
      split
      · rename_i hle; show same H _ = _; rw [partA_agg hle]; rfl
      · trivial
    · rename_i ha
      have ha : agg = false := by simpa using ha
      subst ha
      rw [sel_beq]
      split
      · rename_i hn; subst hn
        cases hv : cs[off]? with
        | none => rw [nthR_none hv]; trivial
        | some v => rw [nthR_some hv]; show same H _ = _; rw [partA_one hv]; rfl
      · trivial
noncomputable def idxAF (n sz : Nat) (agg : Bool) (x i : AV) : RS := isNat i (fun _ j => sel (Nat.blt j n) (partF x (Nat.mul j sz) sz agg) .no) .no
theorem idxAF_ok (n sz : Nat) (agg : Bool) (x i : AV) : OkOp lo H (idxAA n sz agg x i H) (idxAF n sz agg x i) := by
  cases i <;> try trivial
  case int k i =>
    cases i <;> try trivial
    case ofNat j =>
      show OkOp lo H _ (sel _ _ _)
      rw [sel_blt]
      split
      · rename_i h1
        rw [show idxAA n sz agg x (.int k (.ofNat j)) H = _ from idxAA_nat (k := k) h1]
        exact partF_ok _ _ _ _
      · trivial
noncomputable def isTup {R : Type} (v : AV) (f : List AV → R) (d : R) : R :=
  @AV.rec (fun _ => (List AV → R) → R → R) (fun _ => Unit) (fun _ _ f d => d) (fun _ f d => d) (fun _ f d => d) (fun f d => d) (fun _ _ _ f d => d) (fun _ _ _ f d => d) (fun f d => d) (fun _ _ _ _ _ f d => d) (fun _ _ _ _ _ f d => d) (fun f d => d) (fun _ _ _ f d => d) (fun f d => d) (fun _ f d => d) (fun _ _ f d => d) (fun cs _ f d => f cs) (fun f d => d) () (fun _ _ _ _ => ()) v f d
noncomputable def extF (x : AV) (i : Nat) : RS := isTup x (fun vs => nthR vs i) .no
theorem extF_ok (x : AV) (i : Nat) : OkOp lo H (extA x i H) (extF x i) := by
  cases x <;> try trivial
  case tup vs =>
    show OkOp lo H _ (nthR vs i)
    cases hv : vs[i]? with
    | none => rw [nthR_none hv]; trivial
    | some v => rw [nthR_some hv]; show same H _ = _; rw [hv]; rfl
noncomputable def lenSF (x : AV) : RS := isSlc x (fun _ _ _ len _ => natR .i64 len) (isLst x (fun n _ _ _ => natR .i64 n) (match x with
  | .nils => natR .i64 0
  | _ => .no))
theorem lenSF_ok (x : AV) : OkOp lo H (lenSA x H) (lenSF x) := by
  cases x <;> try trivial
  case slc a b c d e => show OkOp lo H _ (natR .i64 d); rw [natR_eq]; rfl
  case lst n z f cs => show OkOp lo H _ (natR .i64 n); rw [natR_eq]; rfl
noncomputable def lenTF (x : AV) : RS := isStr x (fun l => natR .i64 (lenF l)) .no
theorem lenTF_ok (x : AV) : OkOp lo H (lenTA x H) (lenTF x) := by
  cases x <;> try trivial
  case str s =>
    show OkOp lo H _ (natR _ _)
    rw [natR_eq, lenF_eq, show s.data.toList.length = s.size from Array.length_toList]; rfl
noncomputable def sliceTF (x : AV) (lo hi : Option AV) : RS := isStr x (fun s => match boundA 0 lo, boundA (lenF s) hi with
  | some l, some h => sel (Nat.ble l h) (sel (Nat.ble h (lenF s)) (.same (.str (strOf ((s.drop l).take (Nat.sub h l))))) .no) .no
  | _, _ => .no) .no
theorem strOf_extract (s : ByteArray) (l h : Nat) : strOf ((s.data.toList.drop l).take (h - l)) = s.extract l h := by
  apply ByteArray.ext
  apply Array.ext'
  simp only [strOf, ByteArray.data_extract, Array.toList_extract, List.extract_eq_take_drop]
theorem sliceTF_ok (x : AV) (l h : Option AV) : OkOp lo H (same H (sliceTA x l h)) (sliceTF x l h) := by
  cases x <;> try trivial
  case str s =>
    have hs : s.data.toList.length = s.size := Array.length_toList
    simp only [sliceTF, isStr, lenF_eq, hs, sliceTA]
    cases boundA 0 l with
    | none => trivial
    | some a =>
      cases boundA s.size h with
      | none => trivial
      | some b =>
        simp only
        by_cases h1 : a ≤ b
        · by_cases h2 : b ≤ s.size
          · rw [sel_ble, if_pos h1, sel_ble, if_pos h2, if_pos ⟨h1, h2⟩]
            show some _ = some _
            rw [show Nat.sub b a = b - a from rfl, strOf_extract]
          · rw [sel_ble, if_pos h1, sel_ble, if_neg h2]; trivial
        · rw [sel_ble, if_neg h1]; trivial
noncomputable def slarrF (n sz : Nat) (h : HS) (x : AV) (lo hi : Option AV) : RS := match boundA 0 lo, boundA n hi with
  | some l, some u => isPtr x (fun id tot idx => objK h id (fun _ _ m cs => sel (Nat.beq m tot) (if l ≤ u ∧ u ≤ n ∧ idx + n * sz ≤ m then .same (.slc id tot (idx + l * sz) (u - l) sz) else .no) .no) .no) .no
  | _, _ => .no
theorem slarrF_ok (r : Rep h H) (n sz : Nat) (x : AV) (l u : Option AV) : OkOp lo H (same H (slArrO H x n sz l u)) (slarrF n sz h x l u) := by
  unfold slarrF slArrO
  cases boundA 0 l with
  | none => trivial
  | some a =>
    cases boundA n u with
    | none => trivial
    | some b =>
      simp only
      cases x <;> try trivial
      case ptr id tot idx =>
        show OkOp lo H _ (objK h id _ _)
        rcases objK_cases r id (fun _ _ m cs => sel (Nat.beq m tot) (if a ≤ b ∧ b ≤ n ∧ idx + n * sz ≤ m then RS.same (.slc id tot (idx + a * sz) (b - a) sz) else .no) .no) RS.no with ⟨t, g, cs, e1, e2, _⟩ | ⟨e1, e2⟩
        · rw [e2, sel_beq]
          split
          · rename_i ht
            split
            · rename_i hc
              show same H _ = _
              simp only [slArrA, readO, e1, if_pos ht, if_pos hc, same]
            · trivial
          · trivial
        · rw [e2]; trivial

/-! #### append, copy -/
noncomputable def appF (e : TypeId) (sz bytes : Nat) (lo : Nat) (h : HS) (x y : AV) : RS :=
  match elemsF h y sz with
  | some (m, ys) => sel (Nat.beq m 0) (match x with
      | .nils => .same x
      | .slc _ _ _ _ _ => .same x
      | .lst _ _ _ _ => .same x
      | _ => .no) (match x with
      | .nils => if m * bytes ≤ 140737488355328 ∧ m ≤ 9223372036854775807 then newR (fun n => .slc n (lenF ys) 0 m sz) h (.cells e true (lenF ys) ys) else .no
      | .lst n sz' true cs => if sz' = sz ∧ (n + m) * bytes ≤ 140737488355328 ∧ n + m ≤ 9223372036854775807 then newR (fun i => .slc i (lenF (cs ++ ys)) 0 (n + m) sz) h (.cells e true (lenF (cs ++ ys)) (cs ++ ys)) else .no
      | .slc id tot off n sz' => objK h id (fun t g k cs => sel g (sel (Nat.ble lo id) (sel (Nat.beq k tot) (if t = e ∧ sz' = sz ∧ off = 0 ∧ n * sz = tot ∧ (n + m) * bytes ≤ 140737488355328 ∧ n + m ≤ 9223372036854775807 then
            natK (Nat.add k (lenF ys)) fun k' => natK (Nat.add n m) fun n' => .new (.slc id k' 0 n' sz) (setH h id (.cells t true k' (cs ++ ys))) else .no) .no) .no) .no) .no
      | _ => .no)
  | none => .no
theorem appF_ok (r : Rep h H) (hl : lo ≤ h.n) (e : TypeId) (sz bytes : Nat) (x y : AV) : OkOp lo H (appA H e x y sz bytes) (appF e sz bytes lo h x y) := by
  unfold appF appA
  rw [elemsF_eq r]
  cases elemsA H y sz with
  | none => trivial
  | some p =>
    obtain ⟨m, ys⟩ := p
    simp only
    rw [sel_beq]
    split
    · cases x <;> first | trivial | rfl
    · cases x <;> try trivial
      case nils =>
        simp only
        split
        · rename_i hc
          have := newR_ok (lo := lo) r hl (fun n => .slc n (lenF ys) 0 m sz) (.cells e true (lenF ys) ys) (lenF_eq _)
          simp only [lenF_eq] at this ⊢
          exact this
        · trivial
      case lst n sz' f cs =>
        cases f <;> try trivial
        simp only
        split
        · rename_i hc
          have := newR_ok (lo := lo) r hl (fun i => .slc i (lenF (cs ++ ys)) 0 (n + m) sz) (.cells e true (lenF (cs ++ ys)) (cs ++ ys)) (lenF_eq _)
          simp only [lenF_eq] at this ⊢
          exact this
        · trivial
      case slc id tot off n sz' =>
        simp only
        rcases objK_cases r id (fun t g k cs => sel g (sel (Nat.ble lo id) (sel (Nat.beq k tot) (if t = e ∧ sz' = sz ∧ off = 0 ∧ n * sz = tot ∧ (n + m) * bytes ≤ 140737488355328 ∧ n + m ≤ 9223372036854775807 then
            natK (Nat.add k (lenF ys)) fun k' => natK (Nat.add n m) fun n' => RS.new (.slc id k' 0 n' sz) (setH h id (.cells t true k' (cs ++ ys))) else .no) .no) .no) .no) RS.no with ⟨t, g, cs, e1, e2, e3⟩ | ⟨e1, e2⟩
        · rw [e2, sel_eq]
          by_cases hg : g = true
          · rw [if_pos hg, sel_ble]
            subst hg
            by_cases hlo : lo ≤ id
            · rw [if_pos hlo, sel_beq]
              by_cases ht : cs.length = tot
              · rw [if_pos ht]
                by_cases hc : t = e ∧ sz' = sz ∧ off = 0 ∧ n * sz = tot ∧ (n + m) * bytes ≤ 140737488355328 ∧ n + m ≤ 9223372036854775807
                · rw [if_pos hc]
                  obtain ⟨c1, c2, c3, c4, c5, c6⟩ := hc
                  rw [natK_eq, natK_eq, lenF_eq]
                  simp only [e1]
                  rw [if_pos ⟨c1, c2, c3, ht, c4, c5, c6⟩]
                  have := setR_ok (lo := lo) r e3 hlo (.slc id (cs.length + ys.length) 0 (n + m) sz) (o := .cells t true (cs.length + ys.length) (cs ++ ys)) (by show _ = _; simp)
                  rw [List.length_append]
                  exact this
                · rw [if_neg hc]; trivial
              · rw [if_neg ht]; trivial
            · rw [if_neg hlo]; trivial
          · rw [if_neg hg]; trivial
        · rw [e2]; trivial
noncomputable def cpyF (sz : Nat) (lo : Nat) (h : HS) (x y : AV) : RS :=
  match elemsF h y sz with
  | some (m, ys) => match x with
    | .nils => natR .i64 0
    | .slc id tot off n sz' => sel (Nat.beq sz' sz) (natK (min m n) fun q => writeF lo h id tot off (ys.take (Nat.mul q sz)) (.int .i64 (.ofNat q))) .no
    | _ => .no
  | none => .no
theorem cpyF_ok (r : Rep h H) (sz : Nat) (x y : AV) : OkOp lo H (copyA H x y sz) (cpyF sz lo h x y) := by
  unfold cpyF copyA
  rw [elemsF_eq r]
  cases elemsA H y sz with
  | none => trivial
  | some p =>
    obtain ⟨m, ys⟩ := p
    simp only
    cases x <;> try trivial
    case slc id tot off n sz' =>
      simp only
      rw [sel_beq, natK_eq]
      split
      · have := writeF_ok (lo := lo) r id tot off (ys.take (min m n * sz)) (.int .i64 ((min m n : Nat) : Int))
        cases hw : writeO H id tot off (ys.take (min m n * sz)) with
        | none => rw [hw] at this; exact this
        | some H' => rw [hw] at this; exact this
      · trivial

/-! #### maps -/
noncomputable def eoM {R : Type} (o : EO) (f : List (AV × AV) → R) (d : R) : R := @EO.rec (fun _ => (List (AV × AV) → R) → R → R) (fun _ _ _ _ f d => d) (fun es f d => f es) o f d
noncomputable def mapK {R : Type} (h : HS) (id : Nat) (f : List (AV × AV) → R) (d : R) : R := @Option.rec EO (fun _ => R) d (fun o => eoM o f d) (h.t.get id)
theorem mapK_cases {R : Type} (r : Rep h H) (id : Nat) (f : List (AV × AV) → R) (d : R) :
    (∃ es, H[id]? = some (.map es) ∧ mapK h id f d = f es ∧ h.t.get id = some (.map es)) ∨ ((∀ es, H[id]? ≠ some (.map es)) ∧ mapK h id f d = d) := by
  unfold mapK
  have hg := r.get id
  cases hi : h.t.get id with
  | none =>
    rw [hi] at hg
    exact .inr ⟨fun es e => (by rw [← hg] at e; cases e), rfl⟩
  | some o =>
    rw [hi] at hg
    cases o with
    | cells t g n cs => exact .inr ⟨fun es e => (by rw [← hg] at e; simp [EO.obj] at e), rfl⟩
    | map es => exact .inl ⟨es, hg.symm, rfl, rfl⟩
noncomputable def isMap {R : Type} (v : AV) (f : Nat → R) (d : R) : R := match v with
  | .map id => f id
  | _ => d
noncomputable def lookF (kt : KeyT) (z : AV) (ok : Bool) (h : HS) (m x : AV) : RS := isMap m (fun id => mapK h id (fun es => match keyA kt x with
  | some ks => match findA kt ks es 0 with
    | some (some (_, v)) => .same (if ok then .tup [v, .bool true] else v)
    | some none => .same (if ok then .tup [z, .bool false] else z)
    | none => .no
  | none => .no) .no) .no
theorem lookF_ok (r : Rep h H) (kt : KeyT) (z : AV) (ok : Bool) (m x : AV) : OkOp lo H (same H (lookR z ok (lookA H kt m x))) (lookF kt z ok h m x) := by
  cases m <;> try trivial
  case map id =>
    show OkOp lo H _ (mapK h id _ _)
    rcases mapK_cases r id (fun es => match keyA kt x with
      | some ks => match findA kt ks es 0 with
        | some (some (_, v)) => RS.same (if ok then .tup [v, .bool true] else v)
        | some none => .same (if ok then .tup [z, .bool false] else z)
        | none => .no
      | none => .no) RS.no with ⟨es, e1, e2, _⟩ | ⟨e1, e2⟩
    · rw [e2]
      unfold lookA
      cases hk : keyA kt x with
      | none => trivial
      | some ks =>
        simp only [e1]
        cases hf : findA kt ks es 0 with
        | none => trivial
        | some r =>
          cases r with
          | none => rfl
          | some p => obtain ⟨i, v⟩ := p; rfl
    · rw [e2]; trivial
noncomputable def msetF (kt : KeyT) (lo : Nat) (h : HS) (m x v : AV) : RS := isMap m (fun id => mapK h id (fun es => sel (Nat.ble lo id) (match keyA kt x with
  | some ks => match findA kt ks es 0 with
    | some (some (i, _)) => .new .undef (setH h id (.map (es.set i (x, v))))
    | some none => .new .undef (setH h id (.map (es ++ [(x, v)])))
    | none => .no
  | none => .no) .no) .no) .no
theorem msetF_ok (r : Rep h H) (kt : KeyT) (m x v : AV) : OkOp lo H (msetA H kt m x v) (msetF kt lo h m x v) := by
  cases m <;> try trivial
  case map id =>
    show OkOp lo H _ (mapK h id _ _)
    rcases mapK_cases r id (fun es => sel (Nat.ble lo id) (match keyA kt x with
      | some ks => match findA kt ks es 0 with
        | some (some (i, _)) => RS.new .undef (setH h id (.map (es.set i (x, v))))
        | some none => .new .undef (setH h id (.map (es ++ [(x, v)])))
        | none => .no
      | none => .no) .no) RS.no with ⟨es, e1, e2, e3⟩ | ⟨e1, e2⟩
    · rw [e2, sel_ble]
      split
      · rename_i hlo
        unfold msetA
        cases hk : keyA kt x with
        | none => trivial
        | some ks =>
          simp only [e1]
          cases hf : findA kt ks es 0 with
          | none => trivial
          | some r' =>
            cases r' with
            | none => exact setR_ok r e3 hlo .undef (o := .map (es ++ [(x, v)])) trivial
            | some p => obtain ⟨i, v'⟩ := p; exact setR_ok r e3 hlo .undef (o := .map (es.set i (x, v))) trivial
      · trivial
    · rw [e2]; trivial
end
end Go.Proofs.Ah

