/- A machine for the kernel: it runs a function's small code on given values; what it shows is a contract. Its state: tries, its own objects; that they stand for frames and memories. -/
import Derived.Test.YtncghckcdhfhjaaGreatDoorAh17
import Derived.Test.YtncghckcdhfhjaaGreatDoorAh16
set_option linter.unusedVariables false
set_option linter.unusedSimpArgs false
namespace Go.Proofs.Ah
open Go

/-! #### words that the kernel takes quickly -/
noncomputable def sel {α : Type} (c : Bool) (x y : α) : α := @Bool.rec (fun _ => α) y x c
theorem sel_eq {α : Type} (c : Bool) (x y : α) : sel c x y = if c = true then x else y := by cases c <;> rfl
theorem beq_nat (a b : Nat) : (Nat.beq a b = true) = (a = b) := by rw [Nat.beq_eq]
theorem blt_nat (a b : Nat) : (Nat.blt a b = true) = (a < b) := by
  apply propext; simp [Nat.blt]; omega
theorem ble_nat (a b : Nat) : (Nat.ble a b = true) = (a ≤ b) := by
  apply propext; simp
theorem sel_of {α : Type} {c : Bool} {p : Prop} [Decidable p] (h : (c = true) = p) (x y : α) : sel c x y = if p then x else y := by
  cases c
  · rw [if_neg (by rw [← h]; decide)]; rfl
  · rw [if_pos (by rw [← h])]; rfl
theorem sel_beq {α : Type} (a b : Nat) (x y : α) : sel (Nat.beq a b) x y = if a = b then x else y := sel_of (beq_nat a b) x y
theorem sel_blt {α : Type} (a b : Nat) (x y : α) : sel (Nat.blt a b) x y = if a < b then x else y := sel_of (blt_nat a b) x y
theorem sel_ble {α : Type} (a b : Nat) (x y : α) : sel (Nat.ble a b) x y = if a ≤ b then x else y := sel_of (ble_nat a b) x y
noncomputable def natK {α : Type} (n : Nat) (f : Nat → α) : α := @Nat.rec (fun _ => α) (f 0) (fun m _ => f (Nat.succ m)) n
theorem natK_eq {α : Type} (n : Nat) (f : Nat → α) : natK n f = f n := by cases n <;> rfl
noncomputable def nth {α : Type} (l : List α) : Nat → Option α :=
  @List.rec α (fun _ => Nat → Option α) (fun _ => none) (fun x _ ih i => @Nat.rec (fun _ => Option α) (some x) (fun j _ => ih j) i) l
theorem nth_eq {α : Type} : ∀ (l : List α) (i : Nat), nth l i = l[i]?
  | [], i => by simp [nth]
  | x :: r, 0 => rfl
  | x :: r, i + 1 => by
    have := nth_eq r i
    simp only [List.getElem?_cons_succ]
    rw [← this]; rfl
noncomputable def setL {α : Type} (l : List α) (v : α) : Nat → List α :=
  @List.rec α (fun _ => Nat → List α) (fun _ => []) (fun x r ih i => @Nat.rec (fun _ => List α) (v :: r) (fun j _ => x :: ih j) i) l
theorem setL_eq {α : Type} (v : α) : ∀ (l : List α) (i : Nat), setL l v i = l.set i v
  | [], i => by simp [setL]
  | x :: r, 0 => rfl
  | x :: r, i + 1 => by
    have := setL_eq v r i
    simp only [List.set_cons_succ]
    rw [← this]; rfl

/-! #### tries -/
inductive Pth where
  | z
  | l (p : Pth)
  | r (p : Pth)
noncomputable def pthF (k : Nat) : Nat → Pth := @Nat.rec (fun _ => Nat → Pth) (fun _ => .z) (fun _ ih i => sel (Nat.beq i 0) .z (sel (Nat.beq (Nat.mod i 2) 1) (.l (ih (Nat.div i 2))) (.r (ih (Nat.sub (Nat.div i 2) 1))))) k
noncomputable def pth (i : Nat) : Pth := pthF (Nat.succ i) i
def Pth.nat : Pth → Nat
  | .z => 0
  | .l p => 2 * p.nat + 1
  | .r p => 2 * p.nat + 2
theorem pthF_nat : ∀ (k i : Nat), i < k → (pthF k i).nat = i
  | 0, i, h => by omega
  | k + 1, i, h => by
    show (sel (Nat.beq i 0) Pth.z (sel (Nat.beq (Nat.mod i 2) 1) (.l (pthF k (Nat.div i 2))) (.r (pthF k (Nat.sub (Nat.div i 2) 1))))).nat = i
    rw [sel_beq, sel_beq]
    simp only [show Nat.mod i 2 = i % 2 from rfl, show Nat.div i 2 = i / 2 from rfl, show Nat.sub (i / 2) 1 = i / 2 - 1 from rfl]
    by_cases h0 : i = 0
    · rw [if_pos h0, h0]; rfl
    · rw [if_neg h0]
      by_cases h1 : i % 2 = 1
      · rw [if_pos h1, Pth.nat, pthF_nat k _ (by omega)]; omega
      · rw [if_neg h1, Pth.nat, pthF_nat k _ (by omega)]; omega
theorem pth_nat (i : Nat) : (pth i).nat = i := pthF_nat _ _ (by omega)
theorem pth_inj {i j : Nat} (h : pth i = pth j) : i = j := by rw [← pth_nat i, h, pth_nat]
inductive Tr (α : Type) where
  | e
  | n (v : Option α) (l r : Tr α)
noncomputable def Tr.top {α : Type} (t : Tr α) : Option α := @Tr.rec α (fun _ => Option α) none (fun v _ _ _ _ => v) t
noncomputable def Tr.left {α : Type} (t : Tr α) : Tr α := @Tr.rec α (fun _ => Tr α) .e (fun _ l _ _ _ => l) t
noncomputable def Tr.right {α : Type} (t : Tr α) : Tr α := @Tr.rec α (fun _ => Tr α) .e (fun _ _ r _ _ => r) t
noncomputable def Tr.getP {α : Type} (p : Pth) : Tr α → Option α := @Pth.rec (fun _ => Tr α → Option α) Tr.top (fun _ ih t => ih t.left) (fun _ ih t => ih t.right) p
noncomputable def Tr.setP {α : Type} (p : Pth) : Tr α → α → Tr α := @Pth.rec (fun _ => Tr α → α → Tr α)
  (fun t x => @Tr.rec α (fun _ => Tr α) (.n (some x) .e .e) (fun _ l r _ _ => .n (some x) l r) t)
  (fun _ ih t x => @Tr.rec α (fun _ => Tr α) (.n none (ih .e x) .e) (fun v l r _ _ => .n v (ih l x) r) t)
  (fun _ ih t x => @Tr.rec α (fun _ => Tr α) (.n none .e (ih .e x)) (fun v l r _ _ => .n v l (ih r x)) t) p
noncomputable def Tr.get {α : Type} (t : Tr α) (i : Nat) : Option α := Tr.getP (pth i) t
noncomputable def Tr.put {α : Type} (t : Tr α) (i : Nat) (x : α) : Tr α := Tr.setP (pth i) t x
section
variable {α : Type}
theorem Tr.getP_e : ∀ p : Pth, Tr.getP p (Tr.e : Tr α) = none
  | .z => rfl
  | .l p => Tr.getP_e p
  | .r p => Tr.getP_e p
theorem Tr.get_e (i : Nat) : (Tr.e : Tr α).get i = none := Tr.getP_e _
theorem Tr.getP_set_self (x : α) : ∀ (q : Pth) (t : Tr α), Tr.getP q (Tr.setP q t x) = some x
  | .z, t => by cases t <;> rfl
  | .l q, t => by
    cases t with
    | e => exact Tr.getP_set_self x q .e
    | n v l r => exact Tr.getP_set_self x q l
  | .r q, t => by
    cases t with
    | e => exact Tr.getP_set_self x q .e
    | n v l r => exact Tr.getP_set_self x q r
theorem Tr.getP_set_ne (x : α) : ∀ (q p : Pth) (t : Tr α), p ≠ q → Tr.getP p (Tr.setP q t x) = Tr.getP p t
  | .z, .z, t, h => (h rfl).elim
  | .z, .l p, t, h => by cases t <;> rfl
  | .z, .r p, t, h => by cases t <;> rfl
  | .l q, .z, t, h => by cases t <;> rfl
  | .l q, .r p, t, h => by cases t <;> rfl
  | .l q, .l p, t, h => by
    have h' : p ≠ q := fun e => h (by rw [e])
    cases t with
    | e => exact Tr.getP_set_ne x q p .e h'
    | n v l r => exact Tr.getP_set_ne x q p l h'
  | .r q, .z, t, h => by cases t <;> rfl
  | .r q, .l p, t, h => by cases t <;> rfl
  | .r q, .r p, t, h => by
    have h' : p ≠ q := fun e => h (by rw [e])
    cases t with
    | e => exact Tr.getP_set_ne x q p .e h'
    | n v l r => exact Tr.getP_set_ne x q p r h'
theorem Tr.get_put (t : Tr α) (i j : Nat) (x : α) : (t.put i x).get j = if j = i then some x else t.get j := by
  unfold Tr.get Tr.put
  by_cases h : j = i
  · rw [if_pos h, h, Tr.getP_set_self]
  · rw [if_neg h, Tr.getP_set_ne _ _ _ _ fun e => h (pth_inj e)]
end

/-! #### frames -/
abbrev FT := Tr AV
noncomputable def Tr.fr (t : FT) : AFrame := fun i => match t.get i with
  | some v => v
  | none => .tup []
noncomputable def getK {R : Type} (t : FT) (i : Nat) (k : AV → R) : R := @Option.rec AV (fun _ => R) (k (.tup [])) (fun v => k v) (t.get i)
theorem getK_eq {R : Type} (t : FT) (i : Nat) (k : AV → R) : getK t i k = k (t.fr i) := by
  unfold getK Tr.fr
  cases t.get i <;> rfl
noncomputable def argK {R : Type} (x : Arg) (t : FT) (k : AV → R) : R := @Arg.rec (fun _ => R) (fun i => getK t i k) (fun c => k c) x
theorem argK_eq {R : Type} (x : Arg) (t : FT) (k : AV → R) : argK x t k = k (x.ev t.fr) := by
  cases x with
  | t n => exact getK_eq t n k
  | c v => rfl
noncomputable def evsK {R : Type} (xs : List Arg) (t : FT) : (List AV → R) → R :=
  @List.rec Arg (fun _ => (List AV → R) → R) (fun k => k []) (fun x _ ih k => argK x t fun v => ih fun l => k (v :: l)) xs
theorem evsK_eq {R : Type} (t : FT) : ∀ (xs : List Arg) (k : List AV → R), evsK xs t k = k (xs.map (·.ev t.fr))
  | [], k => rfl
  | x :: r, k => by
    show argK x t (fun v => evsK r t fun l => k (v :: l)) = _
    rw [argK_eq, evsK_eq t r]; rfl
theorem fr_put (t : FT) (d : Nat) (v : AV) : Tr.fr (t.put d v) = upd t.fr d v := by
  funext j
  simp only [Tr.fr, upd, Tr.get_put]
  by_cases h : j = d
  · rw [if_pos h, if_pos h]
  · rw [if_neg h, if_neg h]
noncomputable def putO (t : FT) (d : Option Nat) (v : AV) : FT := @Option.rec Nat (fun _ => FT) t (fun d => t.put d v) d
theorem fr_putO (t : FT) (d : Option Nat) (v : AV) : Tr.fr (putO t d v) = updO t.fr d v := by
  cases d with
  | none => rfl
  | some d => exact fr_put t d v
noncomputable def entryT (args : List AV) : Nat → FT → FT :=
  @List.rec AV (fun _ => Nat → FT → FT) (fun _ t => t) (fun x _ ih i t => ih (Nat.succ i) (t.put i x)) args
theorem entryT_get : ∀ (args : List AV) (i : Nat) (t : FT) (j : Nat), (entryT args i t).get j = if i ≤ j ∧ j < i + args.length then args[j - i]? else t.get j
  | [], i, t, j => by
    show t.get j = _
    rw [if_neg (by simp only [List.length_nil]; omega)]
  | x :: r, i, t, j => by
    show (entryT r (Nat.succ i) (t.put i x)).get j = _
    rw [entryT_get r, Tr.get_put]
    simp only [List.length_cons]
    by_cases h : j = i
    · subst h
      rw [if_neg (by omega), if_pos rfl, if_pos (by omega)]; simp
    · by_cases h1 : i + 1 ≤ j ∧ j < i + 1 + r.length
      · rw [if_pos h1, if_pos (by omega)]
        rw [show j - i = (j - i.succ) + 1 by omega, List.getElem?_cons_succ]
      · rw [if_neg h1, if_neg h, if_neg (by omega)]
theorem entryT_fr (args : List AV) : Tr.fr (entryT args 0 .e) = entryFr args := by
  funext j
  simp only [Tr.fr, entryFr, entryT_get, Nat.zero_le, true_and, Nat.zero_add, Nat.sub_zero, Tr.get_e, List.getD_eq_getElem?_getD]
  by_cases h : j < args.length
  · rw [if_pos h, List.getElem?_eq_getElem h]; rfl
  · rw [if_neg h, List.getElem?_eq_none (by omega)]; rfl

/-! #### the memory -/
inductive EO where
  | cells (t : TypeId) (g : Bool) (n : Nat) (cs : List AV)
  | map (es : List (AV × AV))
def EO.obj : EO → AObj
  | .cells t g _ cs => .cells t g cs
  | .map es => .map es
def EO.ok : EO → Prop
  | .cells _ _ n cs => n = cs.length
  | .map _ => True
structure HS where
  t : Tr EO
  n : Nat
structure Rep (h : HS) (H : Heap) : Prop where
  len : H.length = h.n
  get : ∀ i, (h.t.get i).map EO.obj = H[i]?
  ok : ∀ i o, h.t.get i = some o → o.ok
theorem Rep.uniq {h : HS} {H H' : Heap} (r : Rep h H) (r' : Rep h H') : H = H' := by
  apply List.ext_getElem?
  intro i
  rw [← r.get, r'.get]
def Pres (lo : Nat) (H H' : Heap) : Prop := H.length ≤ H'.length ∧ ∀ i, i < lo → H'[i]? = H[i]?
theorem Pres.refl (lo : Nat) (H : Heap) : Pres lo H H := ⟨Nat.le_refl _, fun _ _ => rfl⟩
theorem Pres.trans {lo : Nat} {H H1 H2 : Heap} (h : Pres lo H H1) (k : Pres lo H1 H2) : Pres lo H H2 := ⟨Nat.le_trans h.1 k.1, fun i hi => (k.2 i hi).trans (h.2 i hi)⟩
theorem Pres.le {lo lo' : Nat} {H H1 : Heap} (h : Pres lo H H1) (hl : lo' ≤ lo) : Pres lo' H H1 := ⟨h.1, fun i hi => h.2 i (by omega)⟩
/-- A new object. -/
noncomputable def newH (h : HS) (o : EO) : HS := ⟨h.t.put h.n o, Nat.succ h.n⟩
theorem Rep.new {h : HS} {H : Heap} (r : Rep h H) {o : EO} (ho : o.ok) : Rep (newH h o) (H ++ [o.obj]) where
  len := by simp [newH, r.len]
  get i := by
    show ((h.t.put h.n o).get i).map EO.obj = _
    rw [Tr.get_put]
    by_cases hi : i = h.n
    · rw [if_pos hi, hi, ← r.len, List.getElem?_append_right (Nat.le_refl _)]; simp
    · rw [if_neg hi, r.get]
      by_cases hl : i < H.length
      · rw [List.getElem?_append_left hl]
      · have := r.len
        rw [List.getElem?_eq_none (by omega), List.getElem?_eq_none (by simp; omega)]
  ok i o' h' := by
    have h' : (h.t.put h.n o).get i = some o' := h'
    rw [Tr.get_put] at h'
    split at h'
    · injection h' with h'; subst h'; exact ho
    · exact r.ok i o' h'
theorem Pres.new {lo : Nat} {h : HS} {H : Heap} (r : Rep h H) (hl : lo ≤ h.n) (o : AObj) : Pres lo H (H ++ [o]) :=
  ⟨by simp, fun i hi => List.getElem?_append_left (by have := r.len; omega)⟩
/-- An object written. -/
noncomputable def setH (h : HS) (i : Nat) (o : EO) : HS := ⟨h.t.put i o, h.n⟩
theorem Rep.set {h : HS} {H : Heap} (r : Rep h H) {o o' : EO} {i : Nat} (hi : h.t.get i = some o') (ho : o.ok) : Rep (setH h i o) (H.set i o.obj) where
  len := by simp [setH, r.len]
  get j := by
    show ((h.t.put i o).get j).map EO.obj = _
    rw [Tr.get_put]
    have hil : i < H.length := by
      have := r.get i
      rw [hi] at this
      exact (List.getElem?_eq_some_iff.1 this.symm).1
    by_cases hj : j = i
    · subst hj; rw [if_pos rfl, List.getElem?_set_self hil]; rfl
    · rw [if_neg hj, r.get, List.getElem?_set_ne (by omega)]
  ok j o1 h' := by
    have h' : (h.t.put i o).get j = some o1 := h'
    rw [Tr.get_put] at h'
    split at h'
    · injection h' with h'; subst h'; exact ho
    · exact r.ok j o1 h'
theorem Pres.set {lo i : Nat} {H : Heap} (hl : lo ≤ i) (o : AObj) : Pres lo H (H.set i o) :=
  ⟨by simp, fun j hj => List.getElem?_set_ne (by omega)⟩
theorem Rep.at {h : HS} {H : Heap} (r : Rep h H) {i : Nat} {o : EO} (hi : h.t.get i = some o) : H[i]? = some o.obj := by rw [← r.get, hi]; rfl
theorem Rep.none {h : HS} {H : Heap} (r : Rep h H) {i : Nat} (hi : h.t.get i = Option.none) : H[i]? = Option.none := by rw [← r.get, hi]; rfl
end Go.Proofs.Ah

