/- The kernel's machine: one operation, operations, drawn regions. -/
import Derived.Test.YtncghckcdhfhjaaGreatDoorAh20
set_option linter.unusedVariables false
set_option linter.unusedSimpArgs false
namespace Go.Proofs.Ah
open Go

noncomputable def optK {R : Type} (x : Option Arg) (t : FT) (k : Option AV → R) : R := @Option.rec Arg (fun _ => R) (k none) (fun x => argK x t fun v => k (some v)) x
theorem optK_eq {R : Type} (x : Option Arg) (t : FT) (k : Option AV → R) : optK x t k = k (x.map (·.ev t.fr)) := by
  cases x with
  | none => rfl
  | some x => exact argK_eq x t _
noncomputable def partsK {R : Type} (ps : List (Nat × Nat × Arg)) (t : FT) : (List (Nat × Nat × AV) → R) → R :=
  @List.rec (Nat × Nat × Arg) (fun _ => (List (Nat × Nat × AV) → R) → R) (fun k => k []) (fun x _ ih k => argK x.2.2 t fun v => ih fun l => k ((x.1, x.2.1, v) :: l)) ps
theorem partsK_eq {R : Type} (t : FT) : ∀ (ps : List (Nat × Nat × Arg)) (k : List (Nat × Nat × AV) → R), partsK ps t k = k (evParts t.fr ps)
  | [], k => rfl
  | x :: r, k => by
    show argK x.2.2 t (fun v => partsK r t fun l => k ((x.1, x.2.1, v) :: l)) = _
    rw [argK_eq, partsK_eq t r]; rfl
def optR (v : Option AV) : RS := match v with
  | some v => .same v
  | none => .no
theorem optR_ok {lo : Nat} {H : Heap} (v : Option AV) : OkOp lo H (same H v) (optR v) := by cases v <;> first | trivial | rfl
noncomputable def pureF (op : AOp) (fr : FT) : RS := match opS op fr.fr [] with
  | some (v, _) => .same v
  | none => .no
theorem pureF_ok {lo : Nat} {H : Heap} {op : AOp} (fr : FT) (hl : op.loud = false) (hr : op.read = false) : OkOp lo H (opS op fr.fr H) (pureF op fr) := by
  unfold pureF
  cases hx : opS op fr.fr [] with
  | none => trivial
  | some p => obtain ⟨v, H'⟩ := p; exact opS_pure hl hr hx H
noncomputable def eqCellF : Tag → AV → AV → Option Bool
  | .str, .str a, .str b => some (beqB a.data.toList b.data.toList)
  | t, x, y => eqCell t x y
theorem eqCellF_eq (t : Tag) (x y : AV) : eqCellF t x y = eqCell t x y := by
  unfold eqCellF
  split
  · simp only [eqCell, beqB_eq, ByteArray.toList_eq]
  · rfl
noncomputable def eqCellsF : List Tag → List AV → List AV → Option Bool
  | [], [], [] => some true
  | t :: ts, a :: r, b :: s => match eqCellF t a b with
    | some true => eqCellsF ts r s
    | some false => some false
    | none => none
  | _, _, _ => none
theorem eqCellsF_eq : ∀ (ts : List Tag) (a b : List AV), eqCellsF ts a b = eqCells ts a b
  | [], [], [] => rfl
  | t :: ts, a :: r, b :: s => by
    simp only [eqCellsF, eqCells, eqCellF_eq, eqCellsF_eq ts r s]
    cases eqCell t a b with
    | none => rfl
    | some c => cases c <;> rfl
  | [], _ :: _, _ => by simp only [eqCellsF, eqCells]
  | [], [], _ :: _ => by simp only [eqCellsF, eqCells]
  | _ :: _, [], _ => by simp only [eqCellsF, eqCells]
  | _ :: _, _ :: _, [] => by simp only [eqCellsF, eqCells]
noncomputable def eqgF (neg : Bool) (gs : List Tag) (x y : AV) : RS := isAgg x (fun cs => isAgg y (fun ds => match eqCellsF gs cs ds with
  | some b => boolR (sel neg (!b) b)
  | none => .no) .no) .no
theorem eqgF_ok {lo : Nat} {H : Heap} (neg : Bool) (gs : List Tag) (x y : AV) : OkOp lo H (eqgA neg gs x y H) (eqgF neg gs x y) := by
  cases x <;> try trivial
  case agg cs =>
    cases y <;> try trivial
    case agg ds =>
      simp only [eqgF, isAgg, eqCellsF_eq, eqgA]
      cases eqCells gs cs ds with
      | none => trivial
      | some b => simp only [boolR_eq, sel_eq]; rfl
noncomputable def boundF (d : Nat) (x : Option AV) : Option Nat := @Option.rec AV (fun _ => Option Nat) (some d) (fun v => isNat v (fun _ n => some n) none) x
theorem boundF_eq (d : Nat) (x : Option AV) : boundF d x = boundA d x := by
  cases x with
  | none => rfl
  | some v =>
    cases v <;> try rfl
    case int k a =>
      cases a with
      | ofNat n =>
        show some n = _
        simp [boundA, natA, ofNat_cast]
      | negSucc n =>
        show none = _
        simp [boundA, natA]
noncomputable def sliceSF (sz : Nat) (x : AV) (lo hi : Option AV) : RS := match x with
  | .slc id tot off len sz' => sel (Nat.beq sz' sz) (match boundF 0 lo, boundF len hi with
    | some l, some u => sel (Nat.ble l u) (sel (Nat.ble u len) (natK (Nat.add off (Nat.mul l sz')) fun o => natK (Nat.sub u l) fun n => .same (.slc id tot o n sz')) .no) .no
    | _, _ => .no) .no
  | x => optR (sliceSA sz x lo hi)
theorem sliceSF_ok {l : Nat} {H : Heap} (sz : Nat) (x : AV) (lo hi : Option AV) : OkOp l H (same H (sliceSA sz x lo hi)) (sliceSF sz x lo hi) := by
  unfold sliceSF
  split
  · rename_i id tot off len sz'
    rw [sel_beq, boundF_eq, boundF_eq]
    simp only [sliceSA]
    split
    · cases boundA 0 lo with
      | none => trivial
      | some a =>
        cases boundA len hi with
        | none => trivial
        | some b =>
          simp only
          by_cases h1 : a ≤ b
          · by_cases h2 : b ≤ len
            · rw [sel_ble, if_pos h1, sel_ble, if_pos h2, natK_eq, natK_eq]
              simp only [sliceA, if_pos (And.intro h1 h2)]; rfl
            · rw [sel_ble, if_pos h1, sel_ble, if_neg h2]; trivial
          · rw [sel_ble, if_neg h1]; trivial
    · trivial
  · exact optR_ok _
noncomputable def nilckF (v : AV) : RS := isMem v (fun _ _ _ => .same v) (fun _ _ => .same v) (match v with
  | .fn _ _ => .same v
  | _ => .no)
theorem nilckF_ok {lo : Nat} {H : Heap} (v : AV) : OkOp lo H (nilckA v H) (nilckF v) := by
  cases v <;> first | trivial | rfl
/-- Parts laid into cells, one by one. -/
noncomputable def fillF (cells : List AV) (ps : List (Nat × Nat × AV)) : Option (List AV) :=
  @List.rec (Nat × Nat × AV) (fun _ => List AV → Option (List AV)) (fun cs => some cs)
    (fun p _ ih cs => sel p.2.2.one (sel (Nat.beq p.2.1 1) (sel (Nat.blt p.1 (lenF cs)) (ih (setL cs p.2.2 p.1)) none) none)
      (if p.2.2.cells.length = p.2.1 ∧ p.1 + p.2.1 ≤ cs.length ∧ p.2.2.cells.all AV.one = true then ih (splice cs p.1 p.2.2.cells) else none)) ps cells
theorem fillF_eq : ∀ (ps : List (Nat × Nat × AV)) (cs : List AV), fillF cs ps = fillA cs ps
  | [], cs => rfl
  | (o, n, v) :: r, cs => by
    show sel v.one (sel (Nat.beq n 1) (sel (Nat.blt o (lenF cs)) (fillF (setL cs v o) r) none) none) (if v.cells.length = n ∧ o + n ≤ cs.length ∧ v.cells.all AV.one = true then fillF (splice cs o v.cells) r else none) = _
    rw [sel_eq]
    split
    · rename_i hv
      have hc : v.cells = [v] := by cases v <;> first | rfl | simp [AV.one] at hv
      rw [sel_beq]
      split
      · rename_i hn; subst hn
        rw [sel_blt, lenF_eq]
        split
        · rename_i ho
          rw [fillA_one cs o v r hv (by omega), setL_eq]
          exact fillF_eq r _
        · rename_i ho
          simp only [fillA]
          rw [if_neg (by omega)]
      · rename_i hn
        simp only [fillA]
        rw [if_neg (by rw [hc]; simp; omega)]
    · simp only [fillA]
      rw [fillF_eq r]

abbrev OpF := FT → HS → Nat → RS
noncomputable def fMv (x : Arg) : OpF := fun fr h lo => argK x fr fun v => .same v
noncomputable def fPick (c x y : Arg) : OpF := fun fr h lo => argK c fr fun c => isBool c (fun b => sel b (argK x fr fun v => .same v) (argK y fr fun v => .same v)) .no
noncomputable def fAlloc (t : TypeId) (zs : List AV) : OpF := fun fr h lo => allocF t zs h
noncomputable def fBox (t : TypeId) (x : Arg) : OpF := fun fr h lo => argK x fr fun v => boxF t v h
noncomputable def fBuild (zs : List AV) (ps : List (Nat × Nat × Arg)) : OpF := fun fr h lo => partsK ps fr fun ps => @Option.rec (List AV) (fun _ => RS) .no (fun cs => .same (.agg cs)) (fillF zs ps)
noncomputable def fLit (obj : Bool) (e : TypeId) (n sz : Nat) (zs : List AV) (ps : List (Nat × Nat × Arg)) : OpF := fun fr h lo => partsK ps fr fun ps => sel obj (litF e n sz (fillF (zrep zs n) ps) h)
  (@Option.rec (List AV) (fun _ => RS) .no (fun cs => sel (Nat.beq (lenF cs) (Nat.mul n sz)) (.same (.lst n sz true cs)) .no) (fillF (zrep zs n) ps))
noncomputable def fLoad (n : Nat) (agg : Bool) (x : Arg) : OpF := fun fr h lo => argK x fr fun v => loadF n agg h v
noncomputable def fStore (n : Nat) (x y : Arg) : OpF := fun fr h lo => argK x fr fun x => argK y fr fun y => storeF n lo h x y
noncomputable def fNilck (x : Arg) : OpF := fun fr h lo => argK x fr nilckF
noncomputable def fBin (op : BinOp) (x y : Arg) : OpF := fun fr h lo => argK x fr fun x => argK y fr fun y => binF op x y
noncomputable def fEqb (neg : Bool) (x y : Arg) : OpF := fun fr h lo => pureF (.eqb neg x y) fr
noncomputable def fEqg (neg : Bool) (gs : List Tag) (x y : Arg) : OpF := fun fr h lo => argK x fr fun x => argK y fr fun y => eqgF neg gs x y
noncomputable def fEqn (k : NilKind) (op : BinOp) (x y : Arg) : OpF := fun fr h lo => argK x fr fun x => argK y fr fun y => eqnF h k op x y
noncomputable def fUn (op : UnOp) (x : Arg) : OpF := fun fr h lo => pureF (.un op x) fr
noncomputable def fToInt (k : IntKind) (x : Arg) : OpF := fun fr h lo => argK x fr fun v => toIntF k v
noncomputable def fToStr (x : Arg) : OpF := fun fr h lo => argK x fr fun v => isStr v (fun _ => .same v) .no
noncomputable def fS2b (e : TypeId) (x : Arg) : OpF := fun fr h lo => argK x fr fun v => s2bF e v h
noncomputable def fB2s (x : Arg) : OpF := fun fr h lo => argK x fr fun v => b2sF v h
noncomputable def fMkfn (f : FuncId) (cap : List Arg) : OpF := fun fr h lo => evsK cap fr fun l => .same (.fn f l)
noncomputable def fMks (e : TypeId) (sz bytes : Nat) (zs : List AV) (l c : Arg) : OpF := fun fr h lo => argK l fr fun l => argK c fr fun c => mksF e sz bytes zs l c h
noncomputable def fSliceT (x : Arg) (l u : Option Arg) : OpF := fun fr h lo => argK x fr fun x => optK l fr fun l => optK u fr fun u => sliceTF x l u
noncomputable def fSliceS (sz : Nat) (x : Arg) (l u : Option Arg) : OpF := fun fr h lo => argK x fr fun x => optK l fr fun l => optK u fr fun u => sliceSF sz x l u
noncomputable def fSlarr (n sz : Nat) (x : Arg) (l u : Option Arg) : OpF := fun fr h lo => argK x fr fun x => optK l fr fun l => optK u fr fun u => slarrF n sz h x l u
noncomputable def fFaddr (off : Nat) (x : Arg) : OpF := fun fr h lo => argK x fr fun x => moveF x off
noncomputable def fField (off n : Nat) (agg : Bool) (x : Arg) : OpF := fun fr h lo => argK x fr fun x => partF x off n agg
noncomputable def fIadS (sz : Nat) (x i : Arg) : OpF := fun fr h lo => argK x fr fun x => argK i fr fun i => iadSF sz h x i
noncomputable def fIadA (n sz : Nat) (x i : Arg) : OpF := fun fr h lo => argK x fr fun x => argK i fr fun i => iadAF n sz x i
noncomputable def fIdxS (x i : Arg) : OpF := fun fr h lo => argK x fr fun x => argK i fr fun i => idxF x i
noncomputable def fIdxA (n sz : Nat) (agg : Bool) (x i : Arg) : OpF := fun fr h lo => argK x fr fun x => argK i fr fun i => idxAF n sz agg x i
noncomputable def fExt (x : Arg) (i : Nat) : OpF := fun fr h lo => argK x fr fun x => extF x i
noncomputable def fLenS (x : Arg) : OpF := fun fr h lo => argK x fr lenSF
noncomputable def fLenT (x : Arg) : OpF := fun fr h lo => argK x fr lenTF
noncomputable def fLenA (n : Nat) : OpF := fun fr h lo => natR .i64 n
noncomputable def fApp (e : TypeId) (sz bytes : Nat) (x y : Arg) : OpF := fun fr h lo => argK x fr fun x => argK y fr fun y => appF e sz bytes lo h x y
noncomputable def fCpy (sz : Nat) (x y : Arg) : OpF := fun fr h lo => argK x fr fun x => argK y fr fun y => cpyF sz lo h x y
noncomputable def fMm (m : Bool) (x : Arg) (ys : List Arg) : OpF := fun fr h lo => pureF (.mm m x ys) fr
noncomputable def fMkmap : OpF := fun fr h lo => newR (fun n => .map n) h (.map [])
noncomputable def fLook (kt : KeyT) (z : AV) (ok : Bool) (m x : Arg) : OpF := fun fr h lo => argK m fr fun m => argK x fr fun x => lookF kt z ok h m x
noncomputable def fMset (kt : KeyT) (m x v : Arg) : OpF := fun fr h lo => argK m fr fun m => argK x fr fun x => argK v fr fun v => msetF kt lo h m x v
noncomputable def fAppM (e : TypeId) (sz bytes : Nat) (zs : List AV) (x n : Arg) : OpF := fun fr h lo => argK x fr fun x => argK n fr fun n => appMF e sz bytes zs x n h
noncomputable def aopF (op : AOp) : OpF := @AOp.rec (fun _ => OpF) fMv fPick fAlloc fBox fBuild fLit fLoad fStore fNilck fBin fEqb fEqg fEqn fUn fToInt fToStr fS2b fB2s fMkfn fMks fSliceT fSliceS fSlarr fFaddr fField fIadS fIadA fIdxS fIdxA fExt fLenS fLenT fLenA fApp fCpy fMm fMkmap (fun x fr h lo => pureF (.capS x) fr) fAppM fLook fMset op
theorem aopF_ok {lo : Nat} {h : HS} {H : Heap} (r : Rep h H) (hl : lo ≤ h.n) (op : AOp) (fr : FT) : OkOp lo H (opS op fr.fr H) (aopF op fr h lo) := by
  cases op
  case mv x => show OkOp lo H _ (fMv x fr h lo); simp only [fMv, argK_eq]; rfl
  case pick c x y =>
    show OkOp lo H _ (fPick c x y fr h lo)
    simp only [fPick, argK_eq, opS_pick]
    cases c.ev fr.fr <;> try trivial
    case bool b => simp only [isBool, sel_eq]; cases b <;> rfl
  case alloc t zs => exact allocF_ok r hl t zs
  case box t x => show OkOp lo H _ (fBox t x fr h lo); simp only [fBox, argK_eq]; exact boxF_ok r hl t _
  case build zs ps =>
    show OkOp lo H _ (fBuild zs ps fr h lo)
    simp only [fBuild, partsK_eq, fillF_eq, opS_build]
    cases fillA zs (evParts fr.fr ps) <;> first | trivial | rfl
  case lit obj e n sz zs ps =>
    show OkOp lo H _ (fLit obj e n sz zs ps fr h lo)
    simp only [fLit, partsK_eq, fillF_eq, opS_lit, sel_eq]
    split
    · rename_i ho; subst ho; exact litF_ok r hl _ _ _ _
    · rename_i ho
      have ho : obj = false := by simpa using ho
      subst ho
      cases fillA (zrep zs n) (evParts fr.fr ps) with
      | none => trivial
      | some cs =>
        show OkOp lo H _ (if Nat.beq (lenF cs) (Nat.mul n sz) = true then _ else _)
        rw [lenF_eq]
        split
        · rename_i hc
          rw [beq_nat] at hc
          exact litA_false _ _ _ _ hc
        · trivial
  case load n agg x => show OkOp lo H _ (fLoad n agg x fr h lo); simp only [fLoad, argK_eq]; exact loadF_ok r _ _ _
  case store n x y => show OkOp lo H _ (fStore n x y fr h lo); simp only [fStore, argK_eq]; exact storeF_ok r _ _ _
  case nilck x => show OkOp lo H _ (fNilck x fr h lo); simp only [fNilck, argK_eq, opS_nilck]; exact nilckF_ok _
  case bin op x y => show OkOp lo H _ (fBin op x y fr h lo); simp only [fBin, argK_eq]; exact binF_ok _ _ _
  case eqb neg x y => exact pureF_ok fr rfl rfl
  case eqg neg gs x y => show OkOp lo H _ (fEqg neg gs x y fr h lo); simp only [fEqg, argK_eq, opS_eqg]; exact eqgF_ok _ _ _ _
  case eqn k op x y => show OkOp lo H _ (fEqn k op x y fr h lo); simp only [fEqn, argK_eq]; exact eqnF_ok r _ _ _ _
  case un op x => exact pureF_ok fr rfl rfl
  case toInt k x => show OkOp lo H _ (fToInt k x fr h lo); simp only [fToInt, argK_eq]; exact toIntF_ok _ _
  case toStr x =>
    show OkOp lo H _ (fToStr x fr h lo)
    simp only [fToStr, argK_eq, opS_toStr]
    cases x.ev fr.fr <;> first | trivial | rfl
  case s2b e x => show OkOp lo H _ (fS2b e x fr h lo); simp only [fS2b, argK_eq]; exact s2bF_ok r hl _ _
  case b2s x => show OkOp lo H _ (fB2s x fr h lo); simp only [fB2s, argK_eq]; exact b2sF_ok r _ _
  case mkfn f cap => show OkOp lo H _ (fMkfn f cap fr h lo); simp only [fMkfn, evsK_eq]; rfl
  case mks e sz bytes zs l c => show OkOp lo H _ (fMks e sz bytes zs l c fr h lo); simp only [fMks, argK_eq, opS_mks]; exact mksF_ok r hl _ _ _ _ _ _
  case sliceT x l u => show OkOp lo H _ (fSliceT x l u fr h lo); simp only [fSliceT, argK_eq, optK_eq]; exact sliceTF_ok _ _ _
  case sliceS sz x l u => show OkOp lo H _ (fSliceS sz x l u fr h lo); simp only [fSliceS, argK_eq, optK_eq]; exact sliceSF_ok _ _ _ _
  case slarr n sz x l u => show OkOp lo H _ (fSlarr n sz x l u fr h lo); simp only [fSlarr, argK_eq, optK_eq]; exact slarrF_ok r _ _ _ _ _
  case faddr off x => show OkOp lo H _ (fFaddr off x fr h lo); simp only [fFaddr, argK_eq]; exact moveF_ok _ _
  case field off n agg x => show OkOp lo H _ (fField off n agg x fr h lo); simp only [fField, argK_eq]; exact partF_ok _ _ _ _
  case iadS sz x i => show OkOp lo H _ (fIadS sz x i fr h lo); simp only [fIadS, argK_eq]; exact iadSF_ok r _ _ _
  case iadA n sz x i => show OkOp lo H _ (fIadA n sz x i fr h lo); simp only [fIadA, argK_eq]; exact iadAF_ok _ _ _ _
  case idxS x i => show OkOp lo H _ (fIdxS x i fr h lo); simp only [fIdxS, argK_eq, opS_idxS]; exact idxF_ok _ _
  case idxA n sz agg x i => show OkOp lo H _ (fIdxA n sz agg x i fr h lo); simp only [fIdxA, argK_eq]; exact idxAF_ok _ _ _ _ _
  case ext x i => show OkOp lo H _ (fExt x i fr h lo); simp only [fExt, argK_eq]; exact extF_ok _ _
  case lenS x => show OkOp lo H _ (fLenS x fr h lo); simp only [fLenS, argK_eq]; exact lenSF_ok _
  case lenT x => show OkOp lo H _ (fLenT x fr h lo); simp only [fLenT, argK_eq]; exact lenTF_ok _
  case lenA n => show OkOp lo H _ (natR .i64 n); rw [natR_eq]; rfl
  case app e sz bytes x y => show OkOp lo H _ (fApp e sz bytes x y fr h lo); simp only [fApp, argK_eq]; exact appF_ok r hl _ _ _ _ _
  case cpy sz x y => show OkOp lo H _ (fCpy sz x y fr h lo); simp only [fCpy, argK_eq]; exact cpyF_ok r _ _ _
  case mm m x ys => exact pureF_ok fr rfl rfl
  case capS x => exact pureF_ok fr rfl rfl
  case appM e sz bytes zs x n => show OkOp lo H _ (fAppM e sz bytes zs x n fr h lo); simp only [fAppM, argK_eq]; exact appMF_ok r hl _ _ _ _ _ _
  case mkmap => exact newR_ok r hl (fun n => .map n) (.map []) trivial
  case look kt z ok m x => show OkOp lo H _ (fLook kt z ok m x fr h lo); simp only [fLook, argK_eq]; exact lookF_ok r _ _ _ _ _
  case mset kt m x v => show OkOp lo H _ (fMset kt m x v fr h lo); simp only [fMset, argK_eq]; exact msetF_ok r _ _ _ _

/-! #### with calls -/
abbrev CallF := FuncId → List AV → HS → RS
def OkCall (P : Program) (lo : Nat) (f : FuncId) (args : List AV) (H : Heap) : RS → Prop
  | .no => True
  | .same v => ACall P f args H v H
  | .new v h' => ∃ H', Rep h' H' ∧ ACall P f args H v H' ∧ Pres lo H H'
def CallsOk (P : Program) (lo : Nat) (call : CallF) : Prop := ∀ f args h H, Rep h H → lo ≤ h.n → OkCall P lo f args H (call f args h)
def OkA (P : Program) (lo : Nat) (x : AO) (fr : AFrame) (H : Heap) : RS → Prop
  | .no => True
  | .same v => OpA P x fr H v H
  | .new v h' => ∃ H', Rep h' H' ∧ OpA P x fr H v H' ∧ Pres lo H H'
noncomputable def isFn {R : Type} (v : AV) (f : FuncId → List AV → R) (d : R) : R :=
  @AV.rec (fun _ => (FuncId → List AV → R) → R → R) (fun _ => Unit) (fun _ _ f d => d) (fun _ f d => d) (fun _ f d => d) (fun f d => d) (fun _ _ _ f d => d) (fun _ _ _ f d => d) (fun f d => d) (fun _ _ _ _ _ f d => d) (fun _ _ _ _ _ f d => d) (fun f d => d) (fun g cap _ f d => f g cap) (fun f d => d) (fun _ f d => d) (fun _ _ f d => d) (fun _ _ f d => d) (fun f d => d) () (fun _ _ _ _ => ()) v f d
noncomputable def gOp (x : AOp) (call : CallF) (lo : Nat) (fr : FT) (h : HS) : RS := aopF x fr h lo
noncomputable def gCall (f : FuncId) (xs : List Arg) (call : CallF) (lo : Nat) (fr : FT) (h : HS) : RS := evsK xs fr fun l => call f l h
noncomputable def gCallv (g : Arg) (xs : List Arg) (call : CallF) (lo : Nat) (fr : FT) (h : HS) : RS := argK g fr fun g => isFn g (fun f cap => evsK xs fr fun l => call f (l ++ cap) h) .no
def gBad (call : CallF) (lo : Nat) (fr : FT) (h : HS) : RS := .no
noncomputable def aoF (x : AO) : CallF → Nat → FT → HS → RS := @AO.rec (fun _ => CallF → Nat → FT → HS → RS) gOp gCall gCallv gBad x
section
variable {P : Program} {lo : Nat} {call : CallF}
theorem aoF_ok (hc : CallsOk P lo call) {h : HS} {H : Heap} (r : Rep h H) (hl : lo ≤ h.n) (x : AO) (fr : FT) : OkA P lo x fr.fr H (aoF x call lo fr h) := by
  cases x with
  | op x =>
    have := aopF_ok r hl x fr
    show OkA P lo _ _ H (aopF x fr h lo)
    cases hx : aopF x fr h lo with
    | no => trivial
    | same v => rw [hx] at this; exact this
    | new v h' => rw [hx] at this; exact this
  | call f xs =>
    show OkA P lo _ _ H (gCall f xs call lo fr h)
    simp only [gCall, evsK_eq]
    have := hc f (xs.map (·.ev fr.fr)) h H r hl
    cases hx : call f (xs.map (·.ev fr.fr)) h with
    | no => trivial
    | same v => rw [hx] at this; exact this
    | new v h' => rw [hx] at this; exact this
  | callv g xs =>
    show OkA P lo _ _ H (gCallv g xs call lo fr h)
    simp only [gCallv, evsK_eq, argK_eq]
    cases hg : g.ev fr.fr <;> try trivial
    case fn f cap =>
      show OkA P lo _ _ H (call f (xs.map (·.ev fr.fr) ++ cap) h)
      have := hc f (xs.map (·.ev fr.fr) ++ cap) h H r hl
      cases hx : call f (xs.map (·.ev fr.fr) ++ cap) h with
      | no => trivial
      | same v => rw [hx] at this; exact ⟨f, cap, hg, this⟩
      | new v h' => rw [hx] at this; obtain ⟨H', h1, h2, h3⟩ := this; exact ⟨H', h1, ⟨f, cap, hg, h2⟩, h3⟩
  | bad => trivial

inductive Out where
  | no
  | ok (e : AExit) (fr : FT) (h : HS)
def OkOut (lo : Nat) (H : Heap) (W : APost → Prop) : Out → Prop
  | .no => True
  | .ok e fr' h' => ∃ H', Rep h' H' ∧ Pres lo H H' ∧ ∀ Q : APost, Q e fr'.fr H' → W Q
theorem OkOut.imp {lo : Nat} {H : Heap} {W W' : APost → Prop} {o : Out} (h : OkOut lo H W o) (k : ∀ Q, W Q → W' Q) : OkOut lo H W' o := by
  cases o with
  | no => trivial
  | ok e fr' h' => obtain ⟨H', h1, h2, h3⟩ := h; exact ⟨H', h1, h2, fun Q hq => k Q (h3 Q hq)⟩
theorem OkOut.from {lo : Nat} {H H1 : Heap} {W : APost → Prop} {o : Out} (p : Pres lo H H1) (h : OkOut lo H1 W o) : OkOut lo H W o := by
  cases o with
  | no => trivial
  | ok e fr' h' => obtain ⟨H', h1, h2, h3⟩ := h; exact ⟨H', h1, p.trans h2, h3⟩
noncomputable def rsK (r : RS) (h : HS) (k : AV → HS → Out) : Out := @RS.rec (fun _ => Out) .no (fun v => k v h) (fun v h' => k v h') r
def isWant (v : AV) (want : Bool) (x y : Out) : Out := match v with
  | .bool b => match b, want with
    | true, true => x
    | false, false => x
    | _, _ => y
  | .tup [] => y
  | _ => .no
noncomputable def wantF (g : Option (Nat × Bool)) (fr : FT) (x y : Out) : Out := @Option.rec (Nat × Bool) (fun _ => Out) x (fun p => getK fr p.1 fun v => isWant v p.2 x y) g
theorem wantF_cases (g : Option (Nat × Bool)) (fr : FT) (x y : Out) : (wantA g fr.fr = some true ∧ wantF g fr x y = x) ∨ (wantA g fr.fr = some false ∧ wantF g fr x y = y) ∨ wantF g fr x y = .no := by
  cases g with
  | none => exact .inl ⟨rfl, rfl⟩
  | some p =>
    obtain ⟨t, want⟩ := p
    have e : wantF (some (t, want)) fr x y = isWant (fr.fr t) want x y := getK_eq fr t (fun v => isWant v want x y)
    rw [e, wantA_some]
    cases fr.fr t <;> try exact .inr (.inr rfl)
    case bool b => cases b <;> cases want <;> first | exact .inl ⟨rfl, rfl⟩ | exact .inr (.inl ⟨rfl, rfl⟩)
    case tup vs => cases vs <;> first | exact .inr (.inl ⟨rfl, rfl⟩) | exact .inr (.inr rfl)
noncomputable def stepO (call : CallF) (lo : Nat) (o : AOper) (fr : FT) (h : HS) (ih : FT → HS → Out) : Out :=
  wantF o.g fr (rsK (aoF o.op call lo fr h) h fun v h' => ih (putO fr o.dst v) h') (ih (putO fr o.dst (.tup [])) h)
noncomputable def opsF (call : CallF) (lo : Nat) (l : List AOper) : FT → HS → Out :=
  @List.rec AOper (fun _ => FT → HS → Out) (fun fr h => .ok .normal fr h) (fun o _ ih fr h => stepO call lo o fr h ih) l
theorem opsF_ok (hc : CallsOk P lo call) : ∀ (l : List AOper) {h : HS} {H : Heap} (fr : FT), Rep h H → lo ≤ h.n → OkOut lo H (fun Q => wpOpsA P l (Q .normal) fr.fr H) (opsF call lo l fr h)
  | [], h, H, fr, r, hl => ⟨H, r, .refl _ _, fun Q hq => hq⟩
  | o :: l, h, H, fr, r, hl => by
    show OkOut lo H _ (wantF o.g fr (rsK (aoF o.op call lo fr h) h fun v h' => opsF call lo l (putO fr o.dst v) h') (opsF call lo l (putO fr o.dst (.tup [])) h))
    rcases wantF_cases o.g fr (rsK (aoF o.op call lo fr h) h fun v h' => opsF call lo l (putO fr o.dst v) h') (opsF call lo l (putO fr o.dst (.tup [])) h) with ⟨hw, e⟩ | ⟨hw, e⟩ | e
    · rw [e]
      have ha := aoF_ok hc r hl o.op fr
      cases hx : aoF o.op call lo fr h with
      | no => trivial
      | same v =>
        rw [hx] at ha
        refine (opsF_ok hc l (putO fr o.dst v) r hl).imp fun Q hq => ?_
        simp only [wpOpsA, hw]
        exact ⟨v, H, ha, by rw [fr_putO] at hq; exact hq⟩
      | new v h' =>
        rw [hx] at ha
        obtain ⟨H', h1, h2, h3⟩ := ha
        refine ((opsF_ok hc l (putO fr o.dst v) h1 (by have := h3.1; have := r.len; have := h1.len; omega)).imp fun Q hq => ?_).from h3
        simp only [wpOpsA, hw]
        exact ⟨v, H', h2, by rw [fr_putO] at hq; exact hq⟩
    · rw [e]
      refine (opsF_ok hc l (putO fr o.dst (.tup [])) r hl).imp fun Q hq => ?_
      simp only [wpOpsA, hw]
      rw [fr_putO] at hq; exact hq
    · rw [e]; trivial
end
end Go.Proofs.Ah

