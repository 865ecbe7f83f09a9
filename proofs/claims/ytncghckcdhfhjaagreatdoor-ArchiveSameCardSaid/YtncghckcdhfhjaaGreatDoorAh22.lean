/- The kernel's machine: drawn regions, code, functions; what it runs is a contract. -/
import Derived.Test.YtncghckcdhfhjaaGreatDoorAh21
set_option linter.unusedVariables false
set_option linter.unusedSimpArgs false
namespace Go.Proofs.Ah
open Go

/-! #### are two values the same? -/
def eqL (f : AV → AV → Bool) : List AV → List AV → Bool
  | [], [] => true
  | x :: r, y :: s => f x y && eqL f r s
  | _, _ => false
theorem eqL_ok {f : AV → AV → Bool} (hf : ∀ x y, f x y = true → x = y) : ∀ (a b : List AV), eqL f a b = true → a = b
  | [], [], h => rfl
  | x :: r, y :: s, h => by
    simp only [eqL, Bool.and_eq_true] at h
    rw [hf x y h.1, eqL_ok hf r s h.2]
  | [], _ :: _, h => by simp [eqL] at h
  | _ :: _, [], h => by simp [eqL] at h
noncomputable def eqAV : Nat → AV → AV → Bool
  | 0, _, _ => false
  | d + 1, x, y => match x, y with
    | .int k a, .int k' b => Nat.beq (kno k) (kno k') && decide (a = b)
    | .bool a, .bool b => a == b
    | .str a, .str b => beqB a.data.toList b.data.toList
    | .nilp, .nilp => true
    | .nils, .nils => true
    | .nilf, .nilf => true
    | .nilm, .nilm => true
    | .ptr a b c, .ptr a' b' c' => Nat.beq a a' && (Nat.beq b b' && Nat.beq c c')
    | .slc a b c d e, .slc a' b' c' d' e' => Nat.beq a a' && (Nat.beq b b' && (Nat.beq c c' && (Nat.beq d d' && Nat.beq e e')))
    | .lst n z f cs, .lst n' z' f' cs' => Nat.beq n n' && (Nat.beq z z' && (f == f' && eqL (eqAV d) cs cs'))
    | .pim cs k, .pim cs' k' => Nat.beq k k' && eqL (eqAV d) cs cs'
    | .agg cs, .agg cs' => eqL (eqAV d) cs cs'
    | .tup cs, .tup cs' => eqL (eqAV d) cs cs'
    | .map a, .map b => Nat.beq a b
    | .fn f cs, .fn f' cs' => Nat.beq f f' && eqL (eqAV d) cs cs'
    | .undef, .undef => true
    | _, _ => false
theorem eqAV_ok : ∀ (d : Nat) (x y : AV), eqAV d x y = true → x = y
  | 0, x, y, h => by simp [eqAV] at h
  | d + 1, x, y, h => by
    have ih := eqL_ok (eqAV_ok d)
    unfold eqAV at h
    split at h <;> (try simp only [Bool.and_eq_true, Nat.beq_eq, decide_eq_true_eq, beq_iff_eq, beqB_eq] at h)
    · rw [kno_inj h.1, h.2]
    · rw [h]
    · rename_i a b
      rw [← strOf_data a, h, strOf_data]
    · rfl
    · rfl
    · rfl
    · rfl
    · rw [h.1, h.2.1, h.2.2]
    · rw [h.1, h.2.1, h.2.2.1, h.2.2.2.1, h.2.2.2.2]
    · rw [h.1, h.2.1, h.2.2.1, ih _ _ h.2.2.2]
    · rw [h.1, ih _ _ h.2]
    · rw [ih _ _ h]
    · rw [ih _ _ h]
    · rw [h]
    · rw [h.1, ih _ _ h.2]
    · rfl
    · cases h

/-! #### drawn regions -/
noncomputable def sameR (r : RS) (v : AV) : Bool := match r with
  | .same v' => eqAV 100 v' v
  | _ => false
def isOp (x : AO) (f : AOp → Bool) : Bool := match x with
  | .op x => f x
  | _ => false
def wantB (g : Option (Nat × Bool)) (fr : AFrame) (x : Bool) : Bool := match wantA g fr with
  | some true => x
  | some false => true
  | none => false
noncomputable def sideF (all : List AOper) (hs : List HS) (fr : FT) (o : AOper) (v : AV) (h' : HS) (lo : Nat) (j : Nat) : Bool := match all[j]? with
  | some p => if o.op.loud = true then wantB p.g fr.fr (match p.dst with
      | some d => isOp p.op fun x => sameR (aopF x fr h' lo) (fr.fr d)
      | none => false) else match hs[j]? with
    | some g => isOp o.op fun x => sameR (aopF x fr g lo) v
    | none => false
  | none => false
section
variable {P : Program} {lo : Nat} {call : CallF}
def Reps (lo : Nat) : List HS → List Heap → Prop
  | [], [] => True
  | h :: hs, H :: Hs => (Rep h H ∧ lo ≤ h.n) ∧ Reps lo hs Hs
  | _, _ => False
theorem Reps.get : ∀ {hs : List HS} {Hs : List Heap}, Reps lo hs Hs → ∀ {j : Nat} {g : HS}, hs[j]? = some g → ∃ G, Hs[j]? = some G ∧ Rep g G ∧ lo ≤ g.n
  | [], [], _, j, g, h => by simp at h
  | a :: hs, A :: Hs, hr, 0, g, h => by
    simp at h; subst h; exact ⟨A, by simp, hr.1⟩
  | a :: hs, A :: Hs, hr, j + 1, g, h => by
    simp at h
    obtain ⟨G, h1, h2⟩ := Reps.get hr.2 h
    exact ⟨G, by simpa using h1, h2⟩
  | [], _ :: _, hr, _, _, _ => hr.elim
  | _ :: _, [], hr, _, _, _ => hr.elim
theorem Reps.app : ∀ {hs : List HS} {Hs : List Heap}, Reps lo hs Hs → ∀ {h : HS} {H : Heap}, Rep h H → lo ≤ h.n → Reps lo (hs ++ [h]) (Hs ++ [H])
  | [], [], _, h, H, r, hl => ⟨⟨r, hl⟩, trivial⟩
  | a :: hs, A :: Hs, hr, h, H, r, hl => ⟨hr.1, Reps.app hr.2 r hl⟩
  | [], _ :: _, hr, _, _, _, _ => hr.elim
  | _ :: _, [], hr, _, _, _, _ => hr.elim
theorem Reps.rep {h : HS} {H : Heap} (r : Rep h H) (hl : lo ≤ h.n) : ∀ m, Reps lo (List.replicate m h) (List.replicate m H)
  | 0 => trivial
  | m + 1 => ⟨⟨r, hl⟩, Reps.rep r hl m⟩
theorem sameR_ok {s : RS} {v : AV} (h : sameR s v = true) : s = .same v := by
  cases s <;> simp only [sameR] at h <;> try cases h
  rw [eqAV_ok _ _ _ h]
theorem sideF_ok {all : List AOper} {hs : List HS} {Hs : List Heap} (hr : Reps lo hs Hs) {fr : FT} {o : AOper} {v : AV} {h' : HS} {H' : Heap} (r : Rep h' H') (hl : lo ≤ h'.n) {j : Nat} (h : sideF all hs fr o v h' lo j = true) : sideA P all Hs fr.fr o v H' j := by
  unfold sideF at h
  unfold sideA
  cases hp : all[j]? with
  | none => rw [hp] at h; cases h
  | some p =>
    rw [hp] at h
    simp only at h ⊢
    split
    · rename_i hlo
      rw [if_pos hlo] at h
      unfold wantB at h
      cases hw : wantA p.g fr.fr with
      | none => rw [hw] at h; cases h
      | some b =>
        rw [hw] at h
        cases b with
        | false => split <;> simp_all
        | true =>
          simp only at h
          cases hd : p.dst with
          | none => rw [hd] at h; cases h
          | some d =>
            rw [hd] at h
            simp only at h ⊢
            cases hx : p.op with
            | op x =>
              rw [hx] at h
              have ha := aopF_ok r hl x fr
              rw [sameR_ok h] at ha
              exact ha
            | call => rw [hx] at h; cases h
            | callv => rw [hx] at h; cases h
            | bad => rw [hx] at h; cases h
    · rename_i hlo
      rw [if_neg hlo] at h
      cases hg : hs[j]? with
      | none => rw [hg] at h; cases h
      | some g =>
        rw [hg] at h
        obtain ⟨G, e1, e2, e3⟩ := hr.get hg
        rw [e1]
        simp only at h ⊢
        cases hx : o.op with
        | op x =>
          rw [hx] at h
          have ha := aopF_ok e2 e3 x fr
          rw [sameR_ok h] at ha
          exact ha
        | call => rw [hx] at h; cases h
        | callv => rw [hx] at h; cases h
        | bad => rw [hx] at h; cases h
def allN (l : List Nat) (f : Nat → Bool) : Bool := l.all f
noncomputable def stepA (call : CallF) (lo : Nat) (all : List AOper) (o : AOper × List Nat) (hs : List HS) (fr : FT) (h : HS) (ih : List HS → FT → HS → Out) : Out :=
  wantF o.1.g fr (rsK (aoF o.1.op call lo fr h) h fun v h' => sel (o.2.all (sideF all hs fr o.1 v h' lo)) (ih (hs ++ [h]) (putO fr o.1.dst v) h') .no) (ih (hs ++ [h]) (putO fr o.1.dst (.tup [])) h)
noncomputable def drawAF (call : CallF) (lo : Nat) (all : List AOper) (l : List (AOper × List Nat)) : List HS → FT → HS → Out :=
  @List.rec (AOper × List Nat) (fun _ => List HS → FT → HS → Out) (fun hs fr h => .ok .normal fr h) (fun o _ ih hs fr h => stepA call lo all o hs fr h ih) l
theorem drawAF_ok (hc : CallsOk P lo call) {all : List AOper} : ∀ (l : List (AOper × List Nat)) {hs : List HS} {Hs : List Heap} {h : HS} {H : Heap} (fr : FT), Reps lo hs Hs → Rep h H → lo ≤ h.n → OkOut lo H (fun Q => wpDrawA P all l Hs (Q .normal) fr.fr H) (drawAF call lo all l hs fr h)
  | [], hs, Hs, h, H, fr, hr, r, hl => ⟨H, r, .refl _ _, fun Q hq => hq⟩
  | o :: l, hs, Hs, h, H, fr, hr, r, hl => by
    have ih := fun {h : HS} {H : Heap} fr hs Hs => drawAF_ok hc (all := all) l (hs := hs) (Hs := Hs) (h := h) (H := H) fr
    show OkOut lo H _ (wantF o.1.g fr (rsK (aoF o.1.op call lo fr h) h fun v h' => sel (o.2.all (sideF all hs fr o.1 v h' lo)) (drawAF call lo all l (hs ++ [h]) (putO fr o.1.dst v) h') .no) (drawAF call lo all l (hs ++ [h]) (putO fr o.1.dst (.tup [])) h))
    generalize hX : (rsK (aoF o.1.op call lo fr h) h fun v h' => sel (o.2.all (sideF all hs fr o.1 v h' lo)) (drawAF call lo all l (hs ++ [h]) (putO fr o.1.dst v) h') .no) = X
    rcases wantF_cases o.1.g fr X (drawAF call lo all l (hs ++ [h]) (putO fr o.1.dst (.tup [])) h) with ⟨hw, e⟩ | ⟨hw, e⟩ | e
    · rw [e, ← hX]
      have ha := aoF_ok hc r hl o.1.op fr
      cases hx : aoF o.1.op call lo fr h with
      | no => trivial
      | same v =>
        rw [hx] at ha
        show OkOut lo H _ (sel _ _ _)
        rw [sel_eq]
        split
        · rename_i hs'
          refine (ih (putO fr o.1.dst v) (hs ++ [h]) (Hs ++ [H]) (hr.app r hl) r hl).imp fun Q hq => ?_
          simp only [wpDrawA, hw]
          exact ⟨v, H, ha, fun j hj => sideF_ok hr r hl (List.all_eq_true.1 hs' j hj), by rw [fr_putO] at hq; exact hq⟩
        · trivial
      | new v h' =>
        rw [hx] at ha
        obtain ⟨H', h1, h2, h3⟩ := ha
        have hl' : lo ≤ h'.n := by have := h3.1; have := r.len; have := h1.len; omega
        show OkOut lo H _ (sel _ _ _)
        rw [sel_eq]
        split
        · rename_i hs'
          refine ((ih (putO fr o.1.dst v) (hs ++ [h]) (Hs ++ [H]) (hr.app r hl) h1 hl').imp fun Q hq => ?_).from h3
          simp only [wpDrawA, hw]
          exact ⟨v, H', h2, fun j hj => sideF_ok hr h1 hl' (List.all_eq_true.1 hs' j hj), by rw [fr_putO] at hq; exact hq⟩
        · trivial
    · rw [e]
      refine (ih (putO fr o.1.dst (.tup [])) (hs ++ [h]) (Hs ++ [H]) (hr.app r hl) r hl).imp fun Q hq => ?_
      simp only [wpDrawA, hw]
      rw [fr_putO] at hq; exact hq
    · rw [e]; trivial
noncomputable def rsE (r : RS) (k : AV → Out) (k' : AV → HS → Out) : Out := @RS.rec (fun _ => Out) .no k k' r
noncomputable def stepE (call : CallF) (lo : Nat) (all : List AOper) (o : AOper × List Nat) (l : List (AOper × List Nat)) (m : Nat) (fr : FT) (h : HS) (ih : Nat → FT → HS → Out) : Out :=
  wantF o.1.g fr (sel o.1.op.loud
    (rsE (aoF o.1.op call lo fr h) (fun v => sel (o.2.all (sideF all (List.replicate m h) fr o.1 v h lo)) (ih (Nat.succ m) (putO fr o.1.dst v) h) .no)
      (fun v h' => sel (o.2.all (sideF all (List.replicate m h) fr o.1 v h' lo)) (drawAF call lo all l (List.replicate (Nat.succ m) h) (putO fr o.1.dst v) h') .no))
    (rsE (aoF o.1.op call lo fr h) (fun v => ih (Nat.succ m) (putO fr o.1.dst v) h) (fun _ _ => .no)))
    (ih (Nat.succ m) (putO fr o.1.dst (.tup [])) h)
noncomputable def drawEF (call : CallF) (lo : Nat) (all : List AOper) (l : List (AOper × List Nat)) : Nat → FT → HS → Out :=
  @List.rec (AOper × List Nat) (fun _ => Nat → FT → HS → Out) (fun m fr h => .ok .normal fr h) (fun o l ih m fr h => stepE call lo all o l m fr h ih) l
theorem drawEF_ok (hc : CallsOk P lo call) {all : List AOper} : ∀ (l : List (AOper × List Nat)) (m : Nat) {h : HS} {H : Heap} (fr : FT), Rep h H → lo ≤ h.n → OkOut lo H (fun Q => wpDrawE P all l m (Q .normal) fr.fr H) (drawEF call lo all l m fr h)
  | [], m, h, H, fr, r, hl => ⟨H, r, .refl _ _, fun Q hq => hq⟩
  | o :: l, m, h, H, fr, r, hl => by
    have ih := fun {h : HS} {H : Heap} m fr => drawEF_ok hc (all := all) l m (h := h) (H := H) fr
    show OkOut lo H _ (stepE call lo all o l m fr h (drawEF call lo all l))
    unfold stepE
    generalize hX : sel o.1.op.loud _ _ = X
    rcases wantF_cases o.1.g fr X (drawEF call lo all l (Nat.succ m) (putO fr o.1.dst (.tup [])) h) with ⟨hw, e⟩ | ⟨hw, e⟩ | e
    · rw [e, ← hX, sel_eq]
      have ha := aoF_ok hc r hl o.1.op fr
      have hR := Reps.rep (lo := lo) r hl m
      split
      · rename_i hld
        cases hx : aoF o.1.op call lo fr h with
        | no => trivial
        | same v =>
          rw [hx] at ha
          show OkOut lo H _ (sel _ _ _)
          rw [sel_eq]
          split
          · rename_i hs'
            refine (ih (Nat.succ m) (putO fr o.1.dst v) r hl).imp fun Q hq => ?_
            simp only [wpDrawE, hw]
            rw [if_pos hld]
            exact ⟨v, H, ha, .inl ⟨rfl, fun j hj => sideF_ok hR r hl (List.all_eq_true.1 hs' j hj), by rw [fr_putO] at hq; exact hq⟩⟩
          · trivial
        | new v h' =>
          rw [hx] at ha
          obtain ⟨H', h1, h2, h3⟩ := ha
          have hl' : lo ≤ h'.n := by have := h3.1; have := r.len; have := h1.len; omega
          show OkOut lo H _ (sel _ _ _)
          rw [sel_eq]
          split
          · rename_i hs'
            refine ((drawAF_ok hc l (putO fr o.1.dst v) (Reps.rep (lo := lo) r hl (m + 1)) h1 hl').imp fun Q hq => ?_).from h3
            simp only [wpDrawE, hw]
            rw [if_pos hld]
            exact ⟨v, H', h2, .inr ⟨fun j hj => sideF_ok hR h1 hl' (List.all_eq_true.1 hs' j hj), by rw [fr_putO] at hq; exact hq⟩⟩
          · trivial
      · rename_i hld
        cases hx : aoF o.1.op call lo fr h with
        | no => trivial
        | same v =>
          rw [hx] at ha
          refine (ih (Nat.succ m) (putO fr o.1.dst v) r hl).imp fun Q hq => ?_
          simp only [wpDrawE, hw]
          rw [if_neg hld]
          exact ⟨v, H, ha, by rw [fr_putO] at hq; exact hq⟩
        | new v h' => trivial
    · rw [e]
      refine (ih (Nat.succ m) (putO fr o.1.dst (.tup [])) r hl).imp fun Q hq => ?_
      simp only [wpDrawE, hw]
      rw [fr_putO] at hq; exact hq
    · rw [e]; trivial

/-! #### code -/
abbrev ExF := CallF → Nat → Nat → FT → HS → Out
noncomputable def exitN (e : AExit) (x y : Out) : Out := @AExit.rec (fun _ => Out → Out → Out) (fun x y => x) (fun _ x y => y) (fun _ x y => y) (fun x y => y) e x y
noncomputable def outN (o : Out) (k : FT → HS → Out) : Out := @Out.rec (fun _ => Out) .no (fun e fr h => exitN e (k fr h) (.ok e fr h)) o
def exitB (id : Nat) (e : AExit) (fr : FT) (h : HS) : Out := match e with
  | .exit i => if i = id then .ok .normal fr h else .ok (.exit i) fr h
  | e => .ok e fr h
noncomputable def outB (id : Nat) (o : Out) : Out := @Out.rec (fun _ => Out) .no (exitB id) o
def exitS (e : AExit) (fr : FT) (h : HS) : Out := match e with
  | .goto _ => .no
  | e => .ok e fr h
noncomputable def outS (o : Out) : Out := @Out.rec (fun _ => Out) .no exitS o
noncomputable def loopStep (ih : FT → HS → Out) (o : Out) : Out := outN o ih
noncomputable def loopF (body : FT → HS → Out) (n : Nat) : FT → HS → Out := @Nat.rec (fun _ => FT → HS → Out) (fun _ _ => .no) (fun _ ih fr h => loopStep ih (body fr h)) n
def exitJ (l : Nat) (e : AExit) (fr : FT) (h : HS) (k : FT → HS → Out) : Out := match e with
  | .goto l' => if l' = l then k fr h else .no
  | e => .ok e fr h
noncomputable def jumpStep (l : Nat) (ih : FT → HS → Out) (o : Out) : Out := @Out.rec (fun _ => Out) .no (fun e fr h => exitJ l e fr h ih) o
noncomputable def jumpF (l : Nat) (body : FT → HS → Out) (n : Nat) : FT → HS → Out := @Nat.rec (fun _ => FT → HS → Out) (fun _ _ => .no) (fun _ ih fr h => jumpStep l ih (body fr h)) n
def xSkip : ExF := fun call lo N fr h => .ok .normal fr h
noncomputable def xOps (l : List AOper) : ExF := fun call lo N fr h => opsF call lo l fr h
noncomputable def xDraw (all : List AOper) (l : List (AOper × List Nat)) : ExF := fun call lo N fr h => drawEF call lo all l 0 fr h
noncomputable def xSeq (x y : ACode) (ix iy : ExF) : ExF := fun call lo N fr h => outN (ix call lo N fr h) (iy call lo N)
noncomputable def xCond (c : Arg) (x y : ACode) (ix iy : ExF) : ExF := fun call lo N fr h => argK c fr fun v => isBool v (fun b => sel b (ix call lo N fr h) (iy call lo N fr h)) .no
noncomputable def xBlock (id : Nat) (c : ACode) (ic : ExF) : ExF := fun call lo N fr h => outB id (ic call lo N fr h)
noncomputable def xLoop (c : ACode) (ic : ExF) : ExF := fun call lo N fr h => loopF (ic call lo N) N fr h
def xExit (id : Nat) : ExF := fun call lo N fr h => .ok (.exit id) fr h
noncomputable def xScope (c : ACode) (ic : ExF) : ExF := fun call lo N fr h => outS (ic call lo N fr h)
noncomputable def xJump (l : Nat) (x y : ACode) (ix iy : ExF) : ExF := fun call lo N fr h => jumpStep l (jumpF l (iy call lo N) N) (ix call lo N fr h)
def xLabel (l : Nat) : ExF := fun call lo N fr h => .ok .normal fr h
def xGoto (l : Nat) : ExF := fun call lo N fr h => .ok (.goto l) fr h
def xRet : ExF := fun call lo N fr h => .ok .ret fr h
noncomputable def execF (c : ACode) : ExF := @ACode.rec (fun _ => ExF) xSkip xOps xDraw xSeq xCond xBlock xLoop xExit xScope xJump xLabel xGoto xRet c

def TotOk (P : Program) (lo : Nat) (c : ACode) (body : FT → HS → Out) : Prop := ∀ (fr : FT) (h : HS) (H : Heap), Rep h H → lo ≤ h.n → OkOut lo H (fun Q => wpA P c Q fr.fr H) (body fr h)
theorem le_of {H H' : Heap} {h h' : HS} (h1 : Pres lo H H') (h2 : Rep h H) (h3 : Rep h' H') (h4 : lo ≤ h.n) : lo ≤ h'.n := by have := h1.1; have := h2.len; have := h3.len; omega
theorem loop_ok {c : ACode} {body : FT → HS → Out} (hb : TotOk P lo c body) : ∀ (n : Nat) (fr : FT) (h : HS) (H : Heap), Rep h H → lo ≤ h.n → OkOut lo H (fun Q => wpA P (.loop c) Q fr.fr H) (loopF body n fr h) := by
  have main : ∀ (n : Nat) (fr : FT) (h : HS) (H : Heap), Rep h H → lo ≤ h.n → ∀ e fr' h', loopF body n fr h = .ok e fr' h' → ∃ H', Rep h' H' ∧ Pres lo H H' := by
    intro n
    induction n with
    | zero => intro fr h H r hl e fr' h' hx; cases hx
    | succ n ih =>
      intro fr h H r hl e fr' h' hx
      have hb' := hb fr h H r hl
      have hx : outN (body fr h) (loopF body n) = .ok e fr' h' := hx
      cases ho : body fr h with
      | no => rw [ho] at hx; cases hx
      | ok e1 fr1 h1 =>
        rw [ho] at hb' hx
        obtain ⟨H1, r1, p1, _⟩ := hb'
        cases e1 with
        | normal =>
          obtain ⟨H', r', p'⟩ := ih fr1 h1 H1 r1 (le_of p1 r r1 hl) e fr' h' hx
          exact ⟨H', r', p1.trans p'⟩
        | exit id => cases hx; exact ⟨H1, r1, p1⟩
        | goto l => cases hx; exact ⟨H1, r1, p1⟩
        | ret => cases hx; exact ⟨H1, r1, p1⟩
  intro n fr h H r hl
  cases hx : loopF body n fr h with
  | no => trivial
  | ok e fr' h' =>
    obtain ⟨H', r', p'⟩ := main n fr h H r hl e fr' h' hx
    refine ⟨H', r', p', fun Q hq => ?_⟩
    show ∃ (I : Nat → AFrame → Heap → Prop) (n : Nat), I n fr.fr H ∧ ∀ n fr H, I n fr H → wpA P c (thenA (fun fr' H' => ∃ m, m < n ∧ I m fr' H') Q) fr H
    refine ⟨fun n f G => ∃ (t : FT) (g : HS), f = t.fr ∧ Rep g G ∧ lo ≤ g.n ∧ loopF body n t g = .ok e fr' h', n, ⟨fr, h, rfl, r, hl, hx⟩, ?_⟩
    rintro n f G ⟨t, g, rfl, rg, hlg, hx'⟩
    cases n with
    | zero => cases hx'
    | succ n =>
      have hb' := hb t g G rg hlg
      have hx' : outN (body t g) (loopF body n) = .ok e fr' h' := hx'
      cases ho : body t g with
      | no => rw [ho] at hx'; cases hx'
      | ok e1 fr1 h1 =>
        rw [ho] at hb' hx'
        obtain ⟨H1, r1, p1, k⟩ := hb'
        refine k _ ?_
        cases e1 with
        | normal => exact ⟨n, by omega, fr1, h1, rfl, r1, le_of p1 rg r1 hlg, hx'⟩
        | exit id => cases hx'; rw [r1.uniq r'] ; exact hq
        | goto l => cases hx'; rw [r1.uniq r'] ; exact hq
        | ret => cases hx'; rw [r1.uniq r'] ; exact hq
theorem jump_ok {l : Nat} {c d : ACode} {first body : FT → HS → Out} (hf : TotOk P lo c first) (hb : TotOk P lo d body) (n : Nat) (fr : FT) (h : HS) (H : Heap) (r : Rep h H) (hl : lo ≤ h.n) :
    OkOut lo H (fun Q => wpA P (.jump l c d) Q fr.fr H) (jumpStep l (jumpF l body n) (first fr h)) := by
  have main : ∀ (n : Nat) (fr : FT) (h : HS) (H : Heap), Rep h H → lo ≤ h.n → ∀ e fr' h', jumpF l body n fr h = .ok e fr' h' → ∃ H', Rep h' H' ∧ Pres lo H H' := by
    intro n
    induction n with
    | zero => intro fr h H r hl e fr' h' hx; cases hx
    | succ n ih =>
      intro fr h H r hl e fr' h' hx
      have hb' := hb fr h H r hl
      have hx : jumpStep l (jumpF l body n) (body fr h) = .ok e fr' h' := hx
      cases ho : body fr h with
      | no => rw [ho] at hx; cases hx
      | ok e1 fr1 h1 =>
        rw [ho] at hb' hx
        obtain ⟨H1, r1, p1, _⟩ := hb'
        cases e1 with
        | goto l' =>
          have hx : (if l' = l then jumpF l body n fr1 h1 else .no) = .ok e fr' h' := hx
          split at hx
          · obtain ⟨H', r', p'⟩ := ih fr1 h1 H1 r1 (le_of p1 r r1 hl) e fr' h' hx
            exact ⟨H', r', p1.trans p'⟩
          · cases hx
        | exit id => cases hx; exact ⟨H1, r1, p1⟩
        | normal => cases hx; exact ⟨H1, r1, p1⟩
        | ret => cases hx; exact ⟨H1, r1, p1⟩
  cases hx : jumpStep l (jumpF l body n) (first fr h) with
  | no => trivial
  | ok e fr' h' =>
    have hb0 := hf fr h H r hl
    cases ho : first fr h with
    | no => rw [ho] at hx; cases hx
    | ok e1 fr1 h1 =>
      rw [ho] at hb0 hx
      obtain ⟨H1, r1, p1, k⟩ := hb0
      have step : ∀ (Q : APost) (H' : Heap), Rep h' H' → Q e fr'.fr H' → ∀ (n : Nat) (t : FT) (g : HS) (G : Heap), Rep g G → lo ≤ g.n → jumpF l body n t g = .ok e fr' h' →
          wpA P d (jumpA l (fun f' G' => ∃ m, m < n ∧ ∃ (t : FT) (g : HS), f' = t.fr ∧ Rep g G' ∧ lo ≤ g.n ∧ jumpF l body m t g = .ok e fr' h') Q) t.fr G := by
        intro Q H' r' hq n t g G rg hlg hx'
        cases n with
        | zero => cases hx'
        | succ n =>
          have hb' := hb t g G rg hlg
          have hx' : jumpStep l (jumpF l body n) (body t g) = .ok e fr' h' := hx'
          cases ho : body t g with
          | no => rw [ho] at hx'; cases hx'
          | ok e2 fr2 h2 =>
            rw [ho] at hb' hx'
            obtain ⟨H2, r2, p2, k2⟩ := hb'
            refine k2 _ ?_
            cases e2 with
            | goto l' =>
              have hx' : (if l' = l then jumpF l body n fr2 h2 else .no) = .ok e fr' h' := hx'
              split at hx'
              · rename_i hll
                exact ⟨hll, n, by omega, fr2, h2, rfl, r2, le_of p2 rg r2 hlg, hx'⟩
              · cases hx'
            | exit id => cases hx'; rw [r2.uniq r'] ; exact hq
            | normal => cases hx'; rw [r2.uniq r'] ; exact hq
            | ret => cases hx'; rw [r2.uniq r'] ; exact hq
      have fin : ∃ H', Rep h' H' ∧ Pres lo H H' := by
        cases e1 with
        | goto l' =>
          have hx : (if l' = l then jumpF l body n fr1 h1 else .no) = .ok e fr' h' := hx
          split at hx
          · obtain ⟨H', r', p'⟩ := main n fr1 h1 H1 r1 (le_of p1 r r1 hl) e fr' h' hx
            exact ⟨H', r', p1.trans p'⟩
          · cases hx
        | exit id => cases hx; exact ⟨H1, r1, p1⟩
        | normal => cases hx; exact ⟨H1, r1, p1⟩
        | ret => cases hx; exact ⟨H1, r1, p1⟩
      obtain ⟨H', r', p'⟩ := fin
      refine ⟨H', r', p', fun Q hq => ?_⟩
      show ∃ (J : Nat → AFrame → Heap → Prop), wpA P c (jumpA l (fun fr' H' => ∃ m, J m fr' H') Q) fr.fr H ∧ ∀ n fr H, J n fr H → wpA P d (jumpA l (fun fr' H' => ∃ m, m < n ∧ J m fr' H') Q) fr H
      refine ⟨fun n f G => ∃ (t : FT) (g : HS), f = t.fr ∧ Rep g G ∧ lo ≤ g.n ∧ jumpF l body n t g = .ok e fr' h', k _ ?_, ?_⟩
      · cases e1 with
        | goto l' =>
          have hx : (if l' = l then jumpF l body n fr1 h1 else .no) = .ok e fr' h' := hx
          split at hx
          · rename_i hll
            exact ⟨hll, n, fr1, h1, rfl, r1, le_of p1 r r1 hl, hx⟩
          · cases hx
        | exit id => cases hx; rw [r1.uniq r'] ; exact hq
        | normal => cases hx; rw [r1.uniq r'] ; exact hq
        | ret => cases hx; rw [r1.uniq r'] ; exact hq
      · rintro n f G ⟨t, g, rfl, rg, hlg, hx'⟩
        exact step Q H' r' hq n t g G rg hlg hx'
theorem execF_ok (hc : CallsOk P lo call) (N : Nat) : ∀ (c : ACode), TotOk P lo c (execF c call lo N)
  | .skip => fun fr h H r hl => ⟨H, r, .refl _ _, fun Q hq => hq⟩
  | .ops l => fun fr h H r hl => opsF_ok hc l fr r hl
  | .draw all l => fun fr h H r hl => drawEF_ok hc l 0 fr r hl
  | .seq x y => fun fr h H r hl => by
    have hx := execF_ok hc N x fr h H r hl
    show OkOut lo H _ (outN (execF x call lo N fr h) (execF y call lo N))
    cases ho : execF x call lo N fr h with
    | no => trivial
    | ok e1 fr1 h1 =>
      rw [ho] at hx
      obtain ⟨H1, r1, p1, k⟩ := hx
      cases e1 with
      | normal =>
        have hy := execF_ok hc N y fr1 h1 H1 r1 (le_of p1 r r1 hl)
        exact (hy.imp fun Q hq => k _ hq).from p1
      | exit id => exact ⟨H1, r1, p1, fun Q hq => k _ hq⟩
      | goto l => exact ⟨H1, r1, p1, fun Q hq => k _ hq⟩
      | ret => exact ⟨H1, r1, p1, fun Q hq => k _ hq⟩
  | .cond c x y => fun fr h H r hl => by
    have hx := execF_ok hc N x fr h H r hl
    have hy := execF_ok hc N y fr h H r hl
    show OkOut lo H _ (argK c fr fun v => isBool v (fun b => sel b (execF x call lo N fr h) (execF y call lo N fr h)) .no)
    rw [argK_eq]
    cases hv : c.ev fr.fr <;> try trivial
    case bool b =>
      show OkOut lo H _ (sel b _ _)
      cases b with
      | true => exact hx.imp fun Q hq => ⟨true, hv, fun _ => hq, fun e => (by cases e)⟩
      | false => exact hy.imp fun Q hq => ⟨false, hv, fun e => (by cases e), fun _ => hq⟩
  | .block id c => fun fr h H r hl => by
    have hx := execF_ok hc N c fr h H r hl
    show OkOut lo H _ (outB id (execF c call lo N fr h))
    cases ho : execF c call lo N fr h with
    | no => trivial
    | ok e1 fr1 h1 =>
      rw [ho] at hx
      obtain ⟨H1, r1, p1, k⟩ := hx
      cases e1 with
      | normal => exact ⟨H1, r1, p1, fun Q hq => k _ hq⟩
      | exit i =>
        show OkOut lo H _ (if i = id then _ else _)
        split
        · rename_i hi; exact ⟨H1, r1, p1, fun Q hq => k _ (by simp only [inBlockA, if_pos hi]; exact hq)⟩
        · rename_i hi; exact ⟨H1, r1, p1, fun Q hq => k _ (by simp only [inBlockA, if_neg hi]; exact hq)⟩
      | goto l => exact ⟨H1, r1, p1, fun Q hq => k _ hq⟩
      | ret => exact ⟨H1, r1, p1, fun Q hq => k _ hq⟩
  | .loop c => fun fr h H r hl => loop_ok (execF_ok hc N c) N fr h H r hl
  | .exit id => fun fr h H r hl => ⟨H, r, .refl _ _, fun Q hq => hq⟩
  | .scope c => fun fr h H r hl => by
    have hx := execF_ok hc N c fr h H r hl
    show OkOut lo H _ (outS (execF c call lo N fr h))
    cases ho : execF c call lo N fr h with
    | no => trivial
    | ok e1 fr1 h1 =>
      rw [ho] at hx
      obtain ⟨H1, r1, p1, k⟩ := hx
      cases e1 with
      | normal => exact ⟨H1, r1, p1, fun Q hq => k _ hq⟩
      | exit i => exact ⟨H1, r1, p1, fun Q hq => k _ hq⟩
      | goto l => trivial
      | ret => exact ⟨H1, r1, p1, fun Q hq => k _ hq⟩
  | .jump l x y => fun fr h H r hl => jump_ok (execF_ok hc N x) (execF_ok hc N y) N fr h H r hl
  | .label l => fun fr h H r hl => ⟨H, r, .refl _ _, fun Q hq => hq⟩
  | .goto l => fun fr h H r hl => ⟨H, r, .refl _ _, fun Q hq => hq⟩
  | .ret => fun fr h H r hl => ⟨H, r, .refl _ _, fun Q hq => hq⟩
end
end Go.Proofs.Ah

