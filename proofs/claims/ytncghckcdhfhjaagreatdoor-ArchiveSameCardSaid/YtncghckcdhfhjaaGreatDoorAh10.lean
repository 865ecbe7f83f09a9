/- The abstract walk through a function's code; that the machine's does what it shows. -/
import Derived.Test.YtncghckcdhfhjaaGreatDoorAh9
import Derived.ScopeJumps
set_option linter.unusedVariables false
set_option linter.unusedSimpArgs false
namespace Go.Proofs.Ah
open Go

inductive ACode where
  | skip
  | ops (l : List AOper)
  | draw (all : List AOper) (l : List (AOper × List Nat))
  | seq (x y : ACode)
  | cond (c : Arg) (x y : ACode)
  | block (id : Nat) (c : ACode)
  | loop (c : ACode)
  | exit (id : Nat)
  | scope (c : ACode)
  | jump (l : Nat) (x y : ACode)
  | label (l : Nat)
  | goto (l : Nat)
  | ret
inductive AExit where
  | normal
  | exit (id : Nat)
  | goto (l : Nat)
  | ret
abbrev APost := AExit → AFrame → Heap → Prop
def thenA (next : AFrame → Heap → Prop) (Q : APost) : APost
  | .normal => next
  | e => Q e
def inBlockA (id : Nat) (Q : APost) : APost
  | .exit i => if i = id then Q .normal else Q (.exit i)
  | e => Q e
def noGotoA (Q : APost) : APost
  | .goto _ => fun _ _ => False
  | e => Q e
def jumpA (l : Nat) (J : AFrame → Heap → Prop) (Q : APost) : APost
  | .goto l' => fun fr H => l' = l ∧ J fr H
  | e => Q e

def wpA (P : Program) : ACode → APost → AFrame → Heap → Prop
  | .skip, Q, fr, H => Q .normal fr H
  | .ops l, Q, fr, H => wpOpsA P l (Q .normal) fr H
  | .draw all l, Q, fr, H => wpDrawE P all l 0 (Q .normal) fr H
  | .seq x y, Q, fr, H => wpA P x (thenA (wpA P y Q) Q) fr H
  | .cond c x y, Q, fr, H => ∃ b, c.ev fr = .bool b ∧ (b = true → wpA P x Q fr H) ∧ (b = false → wpA P y Q fr H)
  | .block id c, Q, fr, H => wpA P c (inBlockA id Q) fr H
  | .loop c, Q, fr, H => ∃ (I : Nat → AFrame → Heap → Prop) (n : Nat), I n fr H ∧ ∀ n fr H, I n fr H → wpA P c (thenA (fun fr' H' => ∃ m, m < n ∧ I m fr' H') Q) fr H
  | .exit id, Q, fr, H => Q (.exit id) fr H
  | .scope c, Q, fr, H => wpA P c (noGotoA Q) fr H
  | .jump l x y, Q, fr, H => ∃ (J : Nat → AFrame → Heap → Prop), wpA P x (jumpA l (fun fr' H' => ∃ m, J m fr' H') Q) fr H ∧ ∀ n fr H, J n fr H → wpA P y (jumpA l (fun fr' H' => ∃ m, m < n ∧ J m fr' H') Q) fr H
  | .label _, Q, fr, H => Q .normal fr H
  | .goto l, Q, fr, H => Q (.goto l) fr H
  | .ret, Q, fr, H => Q .ret fr H

/-- The abstract code is the code's. -/
def Is (P : Program) (obj : Bool) (nt : Nat) : ACode → Code → Prop
  | .skip, c => c = .skip
  | .ops l, c => ∃ id ops d, c = .region id ops d ∧ ops.toList.mapM (cOper P obj nt ops) = some l ∧ (d = true → P.follows .mixedOrders = true ∧ ((∃ cl, drawOk ops.toList l cl = true ∧ (withUn l cl 0 l).all (·.2.isEmpty) = true) ∨ twoOk ops l = true))
  | .draw all l, c => ∃ id ops cl, c = .region id ops true ∧ ops.toList.mapM (cOper P obj nt ops) = some all ∧ l = withUn all cl 0 all ∧ drawOk ops.toList all cl = true ∧ P.follows .mixedOrders = true
  | .seq x y, c => ∃ a b, c = .seq a b ∧ Is P obj nt x a ∧ Is P obj nt y b
  | .cond g x y, c => ∃ o a b, c = .cond o a b ∧ cArg o = some g ∧ Is P obj nt x a ∧ Is P obj nt y b
  | .block id x, c => ∃ a, c = .block id a ∧ Is P obj nt x a
  | .loop x, c => ∃ a, c = .loop a ∧ Is P obj nt x a
  | .exit id, c => c = .exit id
  | .scope x, c => ∃ a, c = .scope a ∧ Is P obj nt x a
  | .jump l x y, c => ∃ a b, c = .scope a ∧ findLabel a l = some b ∧ Is P obj nt x a ∧ Is P obj nt y b
  | .label l, c => c = .label l
  | .goto l, c => c = .goto l
  | .ret, c => c = .ret

def labelOf : Code → Option Nat
  | .seq a b => match labelOf a with
    | some l => some l
    | none => labelOf b
  | .label l => some l
  | _ => none
def cCode (P : Program) (obj : Bool) (nt : Nat) : Nat → Code → Option ACode
  | 0, _ => none
  | n + 1, c => match c with
    | .skip => some .skip
    | .region _ ops false => match ops.toList.mapM (cOper P obj nt ops) with
      | some l => some (.ops l)
      | none => none
    | .region _ ops true => match ops.toList.mapM (cOper P obj nt ops) with
      | some l => if drawOk ops.toList l (closures ops.toList []) = true ∧ P.follows .mixedOrders = true then (if (withUn l (closures ops.toList []) 0 l).all (·.2.isEmpty) = true then some (.ops l) else some (.draw l (withUn l (closures ops.toList []) 0 l))) else if twoOk ops l = true ∧ P.follows .mixedOrders = true then some (.ops l) else none
      | none => none
    | .seq a b => match cCode P obj nt n a, cCode P obj nt n b with
      | some x, some y => some (.seq x y)
      | _, _ => none
    | .cond o a b => match cArg o, cCode P obj nt n a, cCode P obj nt n b with
      | some g, some x, some y => some (.cond g x y)
      | _, _, _ => none
    | .block id a => match cCode P obj nt n a with
      | some x => some (.block id x)
      | none => none
    | .loop a => match cCode P obj nt n a with
      | some x => some (.loop x)
      | none => none
    | .exit id => some (.exit id)
    | .scope a => match labelOf a with
      | none => match cCode P obj nt n a with
        | some x => some (.scope x)
        | none => none
      | some l => match findLabel a l with
        | some b => match cCode P obj nt n a, cCode P obj nt n b with
          | some x, some y => some (.jump l x y)
          | _, _ => none
        | none => none
    | .label l => some (.label l)
    | .goto l => some (.goto l)
    | .ret => some .ret
    | _ => none

theorem cCode_is {P : Program} {obj : Bool} {nt : Nat} : ∀ (n : Nat) (c : Code) (x : ACode), cCode P obj nt n c = some x → Is P obj nt x c
  | 0, c, x, h => by simp [cCode] at h
  | n + 1, c, x, h => by
    have ih := cCode_is (P := P) (obj := obj) (nt := nt) n
    simp only [cCode] at h
    split at h
    · injection h with h; subst h; rfl
    · split at h
      · rename_i l hl; injection h with h; subst h; exact ⟨_, _, _, rfl, hl, fun h => by cases h⟩
      · cases h
    · split at h
      · rename_i l hl
        split at h
        · rename_i hd
          split at h
          · rename_i hu; injection h with h; subst h; exact ⟨_, _, _, rfl, hl, fun _ => ⟨hd.2, .inl ⟨_, hd.1, hu⟩⟩⟩
          · injection h with h; subst h; exact ⟨_, _, _, rfl, hl, rfl, hd.1, hd.2⟩
        · split at h
          · rename_i ht; injection h with h; subst h; exact ⟨_, _, _, rfl, hl, fun _ => ⟨ht.2, .inr ht.1⟩⟩
          · cases h
      · cases h
    · split at h
      · rename_i x y hx hy; injection h with h; subst h; exact ⟨_, _, rfl, ih _ _ hx, ih _ _ hy⟩
      · cases h
    · split at h
      · rename_i g x y hg hx hy; injection h with h; subst h; exact ⟨_, _, _, rfl, hg, ih _ _ hx, ih _ _ hy⟩
      · cases h
    · split at h
      · rename_i x hx; injection h with h; subst h; exact ⟨_, rfl, ih _ _ hx⟩
      · cases h
    · split at h
      · rename_i x hx; injection h with h; subst h; exact ⟨_, rfl, ih _ _ hx⟩
      · cases h
    · injection h with h; subst h; rfl
    · split at h
      · split at h
        · rename_i x hx; injection h with h; subst h; exact ⟨_, rfl, ih _ _ hx⟩
        · cases h
      · split at h
        · rename_i b hb
          split at h
          · rename_i x y hx hy; injection h with h; subst h; exact ⟨_, _, rfl, hb, ih _ _ hx, ih _ _ hy⟩
          · cases h
        · cases h
    · injection h with h; subst h; rfl
    · injection h with h; subst h; rfl
    · injection h with h; subst h; rfl
    · cases h

def AExit.to : AExit → Exit
  | .normal => .normal
  | .exit id => .exit id
  | .goto l => .goto l
  | .ret => .ret
/-- What the abstract walk ends with, for the machine. -/
def conc (B nt : Nat) (μ : Nat → Pl) (H : Heap) (w : World) (Q : APost) (e : Exit) (a : Act) (w' : World) : Prop :=
  ∃ e' fr' H' μ', e = e'.to ∧ Q e' fr' H' ∧ Sim B μ' H' w' ∧ Ext μ H w μ' H' w' ∧ FRn nt μ' H' w' fr' a
section
variable {P : Program} {B nt : Nat} {obj : Bool}
theorem conc.from {μ0 : Nat → Pl} {H0 : Heap} {w0 : World} {μ H w Q e a w'} (E : Ext μ0 H0 w0 μ H w) (h : conc B nt μ H w Q e a w') : conc B nt μ0 H0 w0 Q e a w' := by
  obtain ⟨e', fr', H', μ', h1, h2, h3, h4, h5⟩ := h
  exact ⟨e', fr', H', μ', h1, h2, h3, E.trans h4, h5⟩

/-- A loop whose measure the invariant has. -/
theorem wp_loop_n {Q : Exit → Act → World → Prop} {a : Act} {w : World} {c : Code} (I : Nat → Act → World → Prop) {n : Nat} (h₀ : I n a w)
    (round : ∀ n a w, I n a w → c.wp P (Exit.then (fun a' w' => ∃ m, m < n ∧ I m a' w') Q) a w) : (Code.loop c).wp P Q a w := by
  classical
  have least : ∀ a w, (∃ n, I n a w) → ∃ n, I n a w ∧ ∀ m, I m a w → n ≤ m := by
    intro a w ⟨n, hn⟩
    induction n using Nat.strongRecOn with
    | _ n ih =>
      by_cases h : ∃ m, m < n ∧ I m a w
      · obtain ⟨m, h1, h2⟩ := h; exact ih m h1 h2
      · exact ⟨n, hn, fun m hm => Nat.le_of_not_lt fun hlt => h ⟨m, hlt, hm⟩⟩
  refine wp_loop (fun a w => ∃ n, I n a w) (fun a w => if h : ∃ n, I n a w then (least a w h).choose else 0) ⟨n, h₀⟩ fun a w hI => ?_
  refine wp_mono (round _ a w (least a w hI).choose_spec.1) fun e a' w' he => ?_
  cases e <;> simp only [Exit.then] at he ⊢ <;> try exact he
  obtain ⟨m, hm, hIm⟩ := he
  refine ⟨⟨m, hIm⟩, ?_⟩
  rw [dif_pos hI, dif_pos ⟨m, hIm⟩]
  exact Nat.lt_of_le_of_lt ((least a' w' ⟨m, hIm⟩).choose_spec.2 m hIm) hm
theorem wp_jump_n {Q : Exit → Act → World → Prop} {a : Act} {w : World} {c rest : Code} (l : Nat) (J : Nat → Act → World → Prop) (hf : findLabel c l = some rest)
    (first : c.wp P (Exit.jump l (fun a w => ∃ n, J n a w) Q) a w)
    (pass : ∀ n a w, J n a w → rest.wp P (Exit.jump l (fun a' w' => ∃ m, m < n ∧ J m a' w') Q) a w) : (Code.scope c).wp P Q a w := by
  classical
  have least : ∀ a w, (∃ n, J n a w) → ∃ n, J n a w ∧ ∀ m, J m a w → n ≤ m := by
    intro a w ⟨n, hn⟩
    induction n using Nat.strongRecOn with
    | _ n ih =>
      by_cases h : ∃ m, m < n ∧ J m a w
      · obtain ⟨m, h1, h2⟩ := h; exact ih m h1 h2
      · exact ⟨n, hn, fun m hm => Nat.le_of_not_lt fun hlt => h ⟨m, hlt, hm⟩⟩
  refine wp_scope_jumps l (fun a w => ∃ n, J n a w) (fun a w => if h : ∃ n, J n a w then (least a w h).choose else 0) hf first fun a w hI => ?_
  refine wp_mono (pass _ a w (least a w hI).choose_spec.1) fun e a' w' he => ?_
  cases e <;> simp only [Exit.jump] at he ⊢ <;> try exact he
  obtain ⟨hl, m, hm, hIm⟩ := he
  refine ⟨hl, ⟨m, hIm⟩, ?_⟩
  rw [dif_pos hI, dif_pos ⟨m, hIm⟩]
  exact Nat.lt_of_le_of_lt ((least a' w' ⟨m, hIm⟩).choose_spec.2 m hIm) hm

theorem wpA_sound : ∀ (x : ACode) (c : Code), Is P obj nt x c → ∀ {Q : APost} {μ : Nat → Pl} {H : Heap} {w : World} {fr : AFrame} {a : Act}, Sim B μ H w → FRn nt μ H w fr a → wpA P x Q fr H → c.wp P (conc B nt μ H w Q) a w
  | .skip, c, hi, Q, μ, H, w, fr, a, s, F, h => by
    cases hi
    exact wp_skip ⟨.normal, fr, H, μ, rfl, h, s, Ext.refl _ _ _, F⟩
  | .ops l, c, hi, Q, μ, H, w, fr, a, s, F, h => by
    obtain ⟨id, ops, d, rfl, hl, hd⟩ := hi
    cases d with
    | true =>
      obtain ⟨hm, hd'⟩ := hd rfl
      rcases hd' with ⟨cl, hD, hu⟩ | htwo
      rotate_left
      · have E := Ext.drewN (μ := μ) (H := H) (w := w) 1
        refine wp_region_any hm ?_
        exact two_sound hl htwo (s.drewN 1) (F.mono E) h fun μ' H' w' fr' a' q1 q2 q3 q4 => ⟨.normal, fr', H', μ', rfl, q1, q2, E.trans q3, q4⟩
      have E := Ext.drewN (μ := μ) (H := H) (w := w) 1
      refine wp_region_any hm ?_
      refine draw_sound hl hD (s.drewN 1) (F.mono E) (draw_of_ops _ _ _ _ (fun o ho => ?_) (by rw [withUn_fst]; exact h)) fun μ' H' w' fr' a' q1 q2 q3 q4 => ⟨.normal, fr', H', μ', rfl, q1, q2, E.trans q3, q4⟩
      rw [List.all_eq_true] at hu
      simpa using hu o ho
    | false =>
    obtain ⟨k1, k2⟩ := mapM_get hl
    refine wp_region (ops_sound (obj := obj) _ l (by simp [k1]) (fun k i hk => ?_) s F h fun μ' H' w' fr' a' q1 q2 q3 q4 => ⟨.normal, fr', H', μ', rfl, q1, q2, q3, q4⟩)
    have hk' : k < ops.size ∧ i = k := by
      have := List.getElem?_eq_some_iff.1 hk
      obtain ⟨h1, h2⟩ := this
      simp at h1 h2
      exact ⟨h1, h2.symm⟩
    obtain ⟨h1, rfl⟩ := hk'
    obtain ⟨y, e1, e2⟩ := k2 i ops[i] (by simp [h1])
    exact ⟨ops[i], y, by simp [h1], e1, e2⟩
  | .draw all l, c, hi, Q, μ, H, w, fr, a, s, F, h => by
    obtain ⟨id, ops, cl, rfl, hl, rfl, hD, hm⟩ := hi
    have E := Ext.drewN (μ := μ) (H := H) (w := w) 1
    refine wp_region_any hm ?_
    exact draw_sound hl hD (s.drewN 1) (F.mono E) (drawE_ok _ 0 _ _ withUn_un h) fun μ' H' w' fr' a' q1 q2 q3 q4 => ⟨.normal, fr', H', μ', rfl, q1, q2, E.trans q3, q4⟩
  | .seq x y, c, hi, Q, μ, H, w, fr, a, s, F, h => by
    obtain ⟨c1, c2, rfl, h1, h2⟩ := hi
    refine wp_seq (wp_mono (wpA_sound x c1 h1 s F h) fun e a' w' he => ?_)
    obtain ⟨e', fr', H', μ', rfl, hq, s', E, F'⟩ := he
    cases e' with
    | normal => exact wp_mono (wpA_sound y c2 h2 s' F' hq) fun e a w he => he.from E
    | exit id => exact ⟨.exit id, fr', H', μ', rfl, hq, s', E, F'⟩
    | goto l => exact ⟨.goto l, fr', H', μ', rfl, hq, s', E, F'⟩
    | ret => exact ⟨.ret, fr', H', μ', rfl, hq, s', E, F'⟩
  | .cond g x y, c, hi, Q, μ, H, w, fr, a, s, F, h => by
    obtain ⟨o, c1, c2, rfl, hg, h1, h2⟩ := hi
    obtain ⟨b, hb, k1, k2⟩ := h
    have hv := cArg_ok F.fr hg
    rw [hb] at hv
    have ho : a.eval o = .bool b := by
      generalize a.eval o = v at hv
      cases hv; rfl
    refine wp_cond_split ho (fun e => ?_) (fun e => ?_)
    · exact wpA_sound x c1 h1 s F (k1 e)
    · exact wpA_sound y c2 h2 s F (k2 e)
  | .block id x, c, hi, Q, μ, H, w, fr, a, s, F, h => by
    obtain ⟨c1, rfl, h1⟩ := hi
    refine wp_block (wp_mono (wpA_sound x c1 h1 s F h) fun e a' w' he => ?_)
    obtain ⟨e', fr', H', μ', rfl, hq, s', E, F'⟩ := he
    cases e' with
    | normal => exact ⟨.normal, fr', H', μ', rfl, hq, s', E, F'⟩
    | exit i =>
      simp only [AExit.to, Exit.inBlock]
      simp only [inBlockA] at hq
      split
      · rename_i hid; rw [if_pos hid] at hq; exact ⟨.normal, fr', H', μ', rfl, hq, s', E, F'⟩
      · rename_i hid; rw [if_neg hid] at hq; exact ⟨.exit i, fr', H', μ', rfl, hq, s', E, F'⟩
    | goto l => exact ⟨.goto l, fr', H', μ', rfl, hq, s', E, F'⟩
    | ret => exact ⟨.ret, fr', H', μ', rfl, hq, s', E, F'⟩
  | .loop x, c, hi, Q, μ, H, w, fr, a, s, F, h => by
    obtain ⟨c1, rfl, h1⟩ := hi
    obtain ⟨I, n, h0, hr⟩ := h
    refine wp_loop_n (fun n a' w' => ∃ fr' H' μ', I n fr' H' ∧ Sim B μ' H' w' ∧ Ext μ H w μ' H' w' ∧ FRn nt μ' H' w' fr' a') (n := n) ⟨fr, H, μ, h0, s, Ext.refl _ _ _, F⟩ ?_
    rintro n a1 w1 ⟨fr1, H1, μ1, hI, s1, E1, F1⟩
    refine wp_mono (wpA_sound x c1 h1 s1 F1 (hr n fr1 H1 hI)) fun e a' w' he => ?_
    obtain ⟨e', fr', H', μ', rfl, hq, s', E, F'⟩ := he
    cases e' with
    | normal =>
      obtain ⟨m, hm, hI'⟩ := hq
      exact ⟨m, hm, fr', H', μ', hI', s', E1.trans E, F'⟩
    | exit id => exact ⟨.exit id, fr', H', μ', rfl, hq, s', E1.trans E, F'⟩
    | goto l => exact ⟨.goto l, fr', H', μ', rfl, hq, s', E1.trans E, F'⟩
    | ret => exact ⟨.ret, fr', H', μ', rfl, hq, s', E1.trans E, F'⟩
  | .exit id, c, hi, Q, μ, H, w, fr, a, s, F, h => by
    cases hi
    exact wp_exit ⟨.exit id, fr, H, μ, rfl, h, s, Ext.refl _ _ _, F⟩
  | .scope x, c, hi, Q, μ, H, w, fr, a, s, F, h => by
    obtain ⟨c1, rfl, h1⟩ := hi
    refine wp_scope_straight (wp_mono (wpA_sound x c1 h1 s F h) fun e a' w' he => ?_)
    obtain ⟨e', fr', H', μ', rfl, hq, s', E, F'⟩ := he
    cases e' with
    | normal => exact ⟨.normal, fr', H', μ', rfl, hq, s', E, F'⟩
    | exit id => exact ⟨.exit id, fr', H', μ', rfl, hq, s', E, F'⟩
    | goto l => exact hq
    | ret => exact ⟨.ret, fr', H', μ', rfl, hq, s', E, F'⟩
  | .jump l x y, c, hi, Q, μ, H, w, fr, a, s, F, h => by
    obtain ⟨c1, c2, rfl, hf, h1, h2⟩ := hi
    obtain ⟨J, k1, k2⟩ := h
    refine wp_jump_n l (fun n a' w' => ∃ fr' H' μ', J n fr' H' ∧ Sim B μ' H' w' ∧ Ext μ H w μ' H' w' ∧ FRn nt μ' H' w' fr' a') hf (wp_mono (wpA_sound x c1 h1 s F k1) fun e a' w' he => ?_) ?_
    · obtain ⟨e', fr', H', μ', rfl, hq, s', E, F'⟩ := he
      cases e' with
      | normal => exact ⟨.normal, fr', H', μ', rfl, hq, s', E, F'⟩
      | exit id => exact ⟨.exit id, fr', H', μ', rfl, hq, s', E, F'⟩
      | goto l' => exact ⟨hq.1, hq.2.choose, fr', H', μ', hq.2.choose_spec, s', E, F'⟩
      | ret => exact ⟨.ret, fr', H', μ', rfl, hq, s', E, F'⟩
    · rintro n a1 w1 ⟨fr1, H1, μ1, hI, s1, E1, F1⟩
      refine wp_mono (wpA_sound y c2 h2 s1 F1 (k2 n fr1 H1 hI)) fun e a' w' he => ?_
      obtain ⟨e', fr', H', μ', rfl, hq, s', E, F'⟩ := he
      cases e' with
      | normal => exact ⟨.normal, fr', H', μ', rfl, hq, s', E1.trans E, F'⟩
      | exit id => exact ⟨.exit id, fr', H', μ', rfl, hq, s', E1.trans E, F'⟩
      | goto l' =>
        obtain ⟨hl, m, hm, hJ⟩ := hq
        exact ⟨hl, m, hm, fr', H', μ', hJ, s', E1.trans E, F'⟩
      | ret => exact ⟨.ret, fr', H', μ', rfl, hq, s', E1.trans E, F'⟩
  | .label l, c, hi, Q, μ, H, w, fr, a, s, F, h => by
    cases hi
    exact wp_label ⟨.normal, fr, H, μ, rfl, h, s, Ext.refl _ _ _, F⟩
  | .goto l, c, hi, Q, μ, H, w, fr, a, s, F, h => by
    cases hi
    exact wp_goto ⟨.goto l, fr, H, μ, rfl, h, s, Ext.refl _ _ _, F⟩
  | .ret, c, hi, Q, μ, H, w, fr, a, s, F, h => by
    cases hi
    exact wp_ret ⟨.ret, fr, H, μ, rfl, h, s, Ext.refl _ _ _, F⟩
end
end Go.Proofs.Ah

