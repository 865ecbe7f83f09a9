/- A region whose order is drawn. -/
import Derived.Test.YtncghckcdhfhjaaGreatDoorAh5
set_option linter.unusedVariables false
set_option linter.unusedSimpArgs false
namespace Go.Proofs.Ah
open Go

/-- What a region's other orders ask besides: 'un' of an operation tells the earlier ones that it is not ordered with. -/
def sideA (P : Program) (all : List AOper) (hs : List Heap) (fr : AFrame) (o : AOper) (v : AV) (H' : Heap) (j : Nat) : Prop :=
  match all[j]? with
  | some p => if o.op.loud = true then (match wantA p.g fr, p.dst with
      | some true, some d => OpA P p.op fr H' (fr d) H'
      | some false, _ => True
      | _, _ => False) else match hs[j]? with
    | some G => OpA P o.op fr G v G
    | none => False
  | none => False
def wpDrawA (P : Program) (all : List AOper) : List (AOper × List Nat) → List Heap → (AFrame → Heap → Prop) → AFrame → Heap → Prop
  | [], hs, K, fr, H => K fr H
  | o :: r, hs, K, fr, H => match wantA o.1.g fr with
    | some true => ∃ v H', OpA P o.1.op fr H v H' ∧ (∀ j ∈ o.2, sideA P all hs fr o.1 v H' j) ∧ wpDrawA P all r (hs ++ [H]) K (updO fr o.1.dst v) H'
    | some false => wpDrawA P all r (hs ++ [H]) K (updO fr o.1.dst (.tup [])) H
    | none => False

structure Trace (P : Program) (all : List AOper) (l : List (AOper × List Nat)) (hs : List Heap) (V : Nat → AV) (HH : Nat → Heap) (W : Nat → Bool) (F : Nat → AFrame) : Prop where
  want : ∀ i o, l[i]? = some o → wantA o.1.g (F i) = some (W i)
  next : ∀ i o, l[i]? = some o → F (i + 1) = updO (F i) o.1.dst (V i)
  op : ∀ i o, l[i]? = some o → W i = true → OpA P o.1.op (F i) (HH i) (V i) (HH (i + 1)) ∧ ∀ j ∈ o.2, sideA P all (hs ++ (List.range i).map HH) (F i) o.1 (V i) (HH (i + 1)) j
  skip : ∀ i o, l[i]? = some o → W i = false → V i = .tup [] ∧ HH (i + 1) = HH i
def cons {α : Type} (x : α) (f : Nat → α) : Nat → α
  | 0 => x
  | i + 1 => f i
theorem map_cons {α : Type} (x : α) (f : Nat → α) (i : Nat) : (List.range (i + 1)).map (cons x f) = x :: (List.range i).map f := by
  rw [List.range_succ_eq_map, List.map_cons, List.map_map]; rfl

theorem draw_trace {P : Program} {all : List AOper} {K : AFrame → Heap → Prop} : ∀ (l : List (AOper × List Nat)) (hs : List Heap) (fr : AFrame) (H : Heap), wpDrawA P all l hs K fr H →
    ∃ V HH W F, F 0 = fr ∧ HH 0 = H ∧ K (F l.length) (HH l.length) ∧ Trace P all l hs V HH W F
  | [], hs, fr, H, h => ⟨fun _ => .undef, fun _ => H, fun _ => true, fun _ => fr, rfl, rfl, h, ⟨by simp, by simp, by simp, by simp⟩⟩
  | o :: r, hs, fr, H, h => by
    simp only [wpDrawA] at h
    split at h
    · rename_i hw
      obtain ⟨v, H', h1, h2, h3⟩ := h
      obtain ⟨V, HH, W, F, e1, e2, hK, T⟩ := draw_trace r _ _ _ h3
      refine ⟨cons v V, cons H HH, cons true W, cons fr F, rfl, rfl, hK, ⟨?_, ?_, ?_, ?_⟩⟩
      · intro i p hi
        cases i with
        | zero => simp only [List.getElem?_cons_zero] at hi; injection hi with hi; subst hi; exact hw
        | succ i => exact T.want i p (by simpa using hi)
      · intro i p hi
        cases i with
        | zero => simp only [List.getElem?_cons_zero] at hi; injection hi with hi; subst hi; exact e1
        | succ i => exact T.next i p (by simpa using hi)
      · intro i p hi hW
        cases i with
        | zero =>
          simp only [List.getElem?_cons_zero] at hi; injection hi with hi; subst hi
          simp only [cons, List.range_zero, List.map_nil, List.append_nil, e2]
          exact ⟨h1, h2⟩
        | succ i =>
          have := T.op i p (by simpa using hi) hW
          rw [map_cons]
          simpa [cons] using this
      · intro i p hi hW
        cases i with
        | zero => cases hW
        | succ i => exact T.skip i p (by simpa using hi) hW
    · rename_i hw
      obtain ⟨V, HH, W, F, e1, e2, hK, T⟩ := draw_trace r _ _ _ h
      refine ⟨cons (.tup []) V, cons H HH, cons false W, cons fr F, rfl, rfl, hK, ⟨?_, ?_, ?_, ?_⟩⟩
      · intro i p hi
        cases i with
        | zero => simp only [List.getElem?_cons_zero] at hi; injection hi with hi; subst hi; exact hw
        | succ i => exact T.want i p (by simpa using hi)
      · intro i p hi
        cases i with
        | zero => simp only [List.getElem?_cons_zero] at hi; injection hi with hi; subst hi; exact e1
        | succ i => exact T.next i p (by simpa using hi)
      · intro i p hi hW
        cases i with
        | zero => cases hW
        | succ i =>
          have := T.op i p (by simpa using hi) hW
          rw [map_cons]
          simpa [cons] using this
      · intro i p hi hW
        cases i with
        | zero => exact ⟨rfl, e2⟩
        | succ i => exact T.skip i p (by simpa using hi) hW
    · cases h

/-! #### the check of a region -/
def bAfter (o : Oper) : List Nat := (o.after.toList.filter (Region.binds .any)).map (·.on)
def gTs (g : Option (Nat × Bool)) : List Nat := match g with | some (t, _) => [t] | none => []
def AOper.ts (o : AOper) : List Nat := o.op.ts ++ gTs o.g
def closures : List Oper → List (List Nat) → List (List Nat)
  | [], acc => acc
  | o :: r, acc => closures r (acc ++ [bAfter o ++ (bAfter o).flatMap fun j => acc.getD j []])
def clash (x y : AO) : Bool := (x.loud && y.read) || (x.read && y.loud)
def unOf (l : List AOper) (cl : List (List Nat)) (i : Nat) (o : AOper) : List Nat :=
  (List.range i).filter fun j => (match l[j]? with | some p => clash o.op p.op | none => false) && !(cl.getD i []).contains j
/-- The edges that bind order what has to be ordered. -/
def drawOkAt (ops : List Oper) (l : List AOper) (cl : List (List Nat)) (i : Nat) : Bool :=
  match ops[i]?, l[i]?, cl[i]? with
  | some o, some p, some c =>
    (bAfter o).all (fun k => c.contains k) &&
    c.all (fun k => decide (k < i) && ((bAfter o).contains k || (bAfter o).any fun j => (cl.getD j []).contains k)) &&
    (List.range l.length).all fun j => match l[j]? with
      | some q => (!(p.op.loud && q.op.loud && decide (j < i)) || c.contains j) &&
        (match q.dst with
          | some d => (!p.ts.contains d || c.contains j || (decide (i < j) && (cl.getD j []).contains i && !p.op.read)) && (decide (j = i) || p.dst != some d)
          | none => true)
      | none => false
  | _, _, _ => false
def drawOk (ops : List Oper) (l : List AOper) (cl : List (List Nat)) : Bool := (List.range l.length).all (drawOkAt ops l cl)
def withUn (l : List AOper) (cl : List (List Nat)) : Nat → List AOper → List (AOper × List Nat)
  | _, [] => []
  | i, o :: r => (o, unOf l cl i o) :: withUn l cl (i + 1) r
theorem withUn_get (l : List AOper) (cl : List (List Nat)) : ∀ (r : List AOper) (k i : Nat), (withUn l cl k r)[i]? = (r[i]?).map fun o => (o, unOf l cl (k + i) o)
  | [], k, i => by simp [withUn]
  | o :: r, k, i => by
    cases i with
    | zero => simp [withUn]
    | succ i =>
      simp only [withUn, List.getElem?_cons_succ]
      rw [withUn_get l cl r (k + 1) i, Nat.add_assoc, Nat.add_comm 1 i]
theorem withUn_len (l : List AOper) (cl : List (List Nat)) : ∀ (r : List AOper) (k : Nat), (withUn l cl k r).length = r.length
  | [], k => rfl
  | o :: r, k => by simp [withUn, withUn_len l cl r (k + 1)]

structure DrawOk (ops : List Oper) (l : List AOper) (cl : Nat → List Nat) : Prop where
  after : ∀ (i : Nat) (o : Oper), ops[i]? = some o → i < l.length → ∀ k ∈ bAfter o, k ∈ cl i
  lt : ∀ (i : Nat), i < l.length → ∀ k ∈ cl i, k < i
  via : ∀ (i : Nat) (o : Oper), ops[i]? = some o → i < l.length → ∀ k ∈ cl i, k ∈ bAfter o ∨ ∃ j ∈ bAfter o, k ∈ cl j
  loud : ∀ (i j : Nat) (p q : AOper), l[i]? = some p → l[j]? = some q → p.op.loud = true → q.op.loud = true → j < i → j ∈ cl i
  looks : ∀ (i j : Nat) (p q : AOper) (d : Nat), l[i]? = some p → l[j]? = some q → q.dst = some d → d ∈ p.ts → j ∈ cl i ∨ (i < j ∧ i ∈ cl j ∧ ¬ p.op.read = true)
  one : ∀ (i j : Nat) (p q : AOper) (d : Nat), l[i]? = some p → l[j]? = some q → q.dst = some d → p.dst = some d → j = i
theorem drawOk_spec {ops : List Oper} {l : List AOper} {cl : List (List Nat)} (h : drawOk ops l cl = true) : DrawOk ops l (fun i => cl.getD i []) := by
  have key : ∀ i, i < l.length → drawOkAt ops l cl i = true := by
    intro i hi
    unfold drawOk at h
    rw [List.all_eq_true] at h
    exact h i (List.mem_range.2 hi)
  have key2 : ∀ i, i < l.length → ∃ o p c, ops[i]? = some o ∧ l[i]? = some p ∧ cl[i]? = some c ∧ (∀ k ∈ bAfter o, k ∈ c) ∧
      (∀ k ∈ c, k < i ∧ (k ∈ bAfter o ∨ ∃ j ∈ bAfter o, k ∈ cl.getD j [])) ∧ ∀ j q, l[j]? = some q → (p.op.loud = true → q.op.loud = true → j < i → j ∈ c) ∧ ∀ d, q.dst = some d → (d ∈ p.ts → j ∈ c ∨ (i < j ∧ i ∈ cl.getD j [] ∧ ¬ p.op.read = true)) ∧ (j = i ∨ p.dst ≠ some d) := by
    intro i hi
    have hk := key i hi
    unfold drawOkAt at hk
    split at hk
    · rename_i o p c ho hp hc
      simp only [Bool.and_eq_true, List.all_eq_true, List.contains_iff_mem, decide_eq_true_eq, Bool.or_eq_true, List.any_eq_true, List.mem_range] at hk
      obtain ⟨⟨k1, k2⟩, k3⟩ := hk
      refine ⟨o, p, c, ho, hp, hc, k1, k2, fun j q hq => ?_⟩
      have := k3 j (List.getElem?_eq_some_iff.1 hq).1
      rw [hq] at this
      simp only [Bool.and_eq_true, Bool.or_eq_true, Bool.not_eq_true', Bool.and_eq_false_imp, decide_eq_true_eq, List.contains_iff_mem, decide_eq_false_iff_not] at this
      refine ⟨fun l1 l2 l3 => ?_, fun d hd => ?_⟩
      · rcases this.1 with h1 | h1
        · exact (h1 ⟨l1, l2⟩ l3).elim
        · exact h1
      · have t2 := this.2
        rw [hd] at t2
        simp only [Bool.and_eq_true, Bool.or_eq_true, Bool.not_eq_true', decide_eq_true_eq, List.contains_iff_mem, bne_iff_ne] at t2
        refine ⟨fun h => ?_, t2.2⟩
        rcases t2.1 with (h1 | h1) | h1
        · have : p.ts.contains d = true := by simpa using h
          rw [this] at h1; cases h1
        · exact .inl h1
        · exact .inr ⟨h1.1.1, h1.1.2, by rw [h1.2]; simp⟩
    · cases hk
  refine ⟨?_, ?_, ?_, ?_, ?_, ?_⟩
  · intro i o ho hi k hk
    obtain ⟨o', p, c, h1, h2, h3, h4, h5, h6⟩ := key2 i hi
    rw [h1] at ho; injection ho with ho; subst ho
    simp only [List.getD_eq_getElem?_getD, h3, Option.getD_some]; exact h4 k hk
  · intro i hi k hk
    obtain ⟨o', p, c, h1, h2, h3, h4, h5, h6⟩ := key2 i hi
    simp only [List.getD_eq_getElem?_getD, h3, Option.getD_some] at hk; exact (h5 k hk).1
  · intro i o ho hi k hk
    obtain ⟨o', p, c, h1, h2, h3, h4, h5, h6⟩ := key2 i hi
    rw [h1] at ho; injection ho with ho; subst ho
    simp only [List.getD_eq_getElem?_getD, h3, Option.getD_some] at hk; exact (h5 k hk).2
  · intro i j p q hp hq l1 l2 hl
    obtain ⟨o', p', c, h1, h2, h3, h4, h5, h6⟩ := key2 i (List.getElem?_eq_some_iff.1 hp).1
    rw [hp] at h2; injection h2 with h2; subst h2
    simp only [List.getD_eq_getElem?_getD, h3, Option.getD_some]; exact (h6 j q hq).1 l1 l2 hl
  · intro i j p q d hp hq hd hm
    obtain ⟨o', p', c, h1, h2, h3, h4, h5, h6⟩ := key2 i (List.getElem?_eq_some_iff.1 hp).1
    rw [hp] at h2; injection h2 with h2; subst h2
    simp only [List.getD_eq_getElem?_getD, h3, Option.getD_some]; exact ((h6 j q hq).2 d hd).1 hm
  · intro i j p q d hp hq hd hm
    obtain ⟨o', p', c, h1, h2, h3, h4, h5, h6⟩ := key2 i (List.getElem?_eq_some_iff.1 hp).1
    rw [hp] at h2; injection h2 with h2; subst h2
    exact ((h6 j q hq).2 d hd).2.resolve_right fun h => h hm
end Go.Proofs.Ah

