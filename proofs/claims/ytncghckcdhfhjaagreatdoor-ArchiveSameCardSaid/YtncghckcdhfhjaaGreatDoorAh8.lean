/- Drawn regions, for the walk: reads ask nothing besides as long as the memory stays; regions in which nothing clashes are as in the text's order. -/
import Derived.Test.YtncghckcdhfhjaaGreatDoorAh7
set_option linter.unusedVariables false
set_option linter.unusedSimpArgs false
namespace Go.Proofs.Ah
open Go

def wpDrawE (P : Program) (all : List AOper) : List (AOper × List Nat) → Nat → (AFrame → Heap → Prop) → AFrame → Heap → Prop
  | [], m, K, fr, H => K fr H
  | o :: r, m, K, fr, H => match wantA o.1.g fr with
    | some true => if o.1.op.loud = true then
        ∃ v H', OpA P o.1.op fr H v H' ∧ ((H' = H ∧ (∀ j ∈ o.2, sideA P all (List.replicate m H) fr o.1 v H' j) ∧ wpDrawE P all r (m + 1) K (updO fr o.1.dst v) H') ∨
          ((∀ j ∈ o.2, sideA P all (List.replicate m H) fr o.1 v H' j) ∧ wpDrawA P all r (List.replicate (m + 1) H) K (updO fr o.1.dst v) H'))
      else ∃ v H', OpA P o.1.op fr H v H' ∧ wpDrawE P all r (m + 1) K (updO fr o.1.dst v) H'
    | some false => wpDrawE P all r (m + 1) K (updO fr o.1.dst (.tup [])) H
    | none => False
section
variable {P : Program} {all : List AOper} {K : AFrame → Heap → Prop}
theorem drawE_ok : ∀ (l : List (AOper × List Nat)) (m : Nat) (fr : AFrame) (H : Heap), (∀ (i : Nat) (o : AOper × List Nat), l[i]? = some o → ∀ j ∈ o.2, j < m + i ∧ j < all.length) → wpDrawE P all l m K fr H → wpDrawA P all l (List.replicate m H) K fr H
  | [], m, fr, H, hu, h => h
  | o :: r, m, fr, H, hu, h => by
    have hu' : ∀ (i : Nat) (p : AOper × List Nat), r[i]? = some p → ∀ j ∈ p.2, j < (m + 1) + i ∧ j < all.length := fun i p hp j hj => by
      have := hu (i + 1) p (by simpa using hp) j hj
      exact ⟨by omega, this.2⟩
    have hrep : List.replicate m H ++ [H] = List.replicate (m + 1) H := by rw [← List.replicate_succ']
    simp only [wpDrawE] at h
    simp only [wpDrawA]
    split at h
    · rename_i hw
      rw [hw]
      split at h
      · obtain ⟨v, H', h1, h2⟩ := h
        refine ⟨v, H', h1, ?_⟩
        rcases h2 with ⟨rfl, h3, h4⟩ | ⟨h3, h4⟩
        · refine ⟨h3, ?_⟩
          rw [hrep]; exact drawE_ok r (m + 1) _ _ hu' h4
        · refine ⟨h3, ?_⟩
          rw [hrep]; exact h4
      · rename_i hl
        obtain ⟨v, H', h1, h2⟩ := h
        have hq := opA_quiet hl h1
        subst hq
        refine ⟨v, H', h1, fun j hj => ?_, ?_⟩
        · obtain ⟨j1, j2⟩ := hu 0 o (by simp) j hj
          unfold sideA
          rw [List.getElem?_eq_getElem j2]
          simp only
          rw [if_neg hl]
          have : (List.replicate m H')[j]? = some H' := by rw [List.getElem?_replicate, if_pos (by omega)]
          rw [this]; exact h1
        · rw [hrep]; exact drawE_ok r (m + 1) _ _ hu' h2
    · rename_i hw
      rw [hw, hrep]; exact drawE_ok r (m + 1) _ _ hu' h
    · cases h
theorem withUn_un {l : List AOper} {cl : List (List Nat)} (i : Nat) (o : AOper × List Nat) (h : (withUn l cl 0 l)[i]? = some o) : ∀ j ∈ o.2, j < 0 + i ∧ j < l.length := by
  rw [withUn_get] at h
  intro j hj
  cases hl : l[i]? with
  | none => rw [hl] at h; cases h
  | some p =>
    rw [hl] at h
    simp only [Option.map_some, Option.some.injEq] at h
    subst h
    simp only [unOf, List.mem_filter, List.mem_range] at hj
    have := (List.getElem?_eq_some_iff.1 hl).1
    omega
/-- Nothing clashes: as in the text's order. -/
theorem draw_of_ops : ∀ (l : List (AOper × List Nat)) (hs : List Heap) (fr : AFrame) (H : Heap), (∀ o ∈ l, o.2 = []) → wpOpsA P (l.map (·.1)) K fr H → wpDrawA P all l hs K fr H
  | [], hs, fr, H, hu, h => h
  | o :: r, hs, fr, H, hu, h => by
    have hu' : ∀ p ∈ r, p.2 = [] := fun p hp => hu p (by simp [hp])
    simp only [List.map_cons, wpOpsA] at h
    simp only [wpDrawA]
    split at h
    · rename_i hw
      rw [hw]
      obtain ⟨v, H', h1, h2⟩ := h
      refine ⟨v, H', h1, ?_, draw_of_ops r _ _ _ hu' h2⟩
      rw [hu o (by simp)]
      intro j hj; cases hj
    · rename_i hw; rw [hw]; exact draw_of_ops r _ _ _ hu' h
    · cases h
theorem withUn_fst (l : List AOper) (cl : List (List Nat)) : ∀ (r : List AOper) (k : Nat), (withUn l cl k r).map (·.1) = r
  | [], k => rfl
  | o :: r, k => by simp [withUn, withUn_fst l cl r (k + 1)]
end
end Go.Proofs.Ah

