/- Operations in the order of the text, and in any order that the text leaves open: what the abstract walk shows of the first holds of all. -/
import Derived.Test.YtncghckcdhfhjaaGreatDoorAh4
import Derived.Orders
set_option linter.unusedVariables false
set_option linter.unusedSimpArgs false
namespace Go.Proofs.Ah
open Go

/-! #### what an operation looks at -/
def Arg.ts : Arg → List Nat
  | .t n => [n]
  | .c _ => []
def oTs : Option Arg → List Nat
  | some x => x.ts
  | none => []
def psTs (ps : List (Nat × Nat × Arg)) : List Nat := ps.flatMap fun p => p.2.2.ts
def xsTs (xs : List Arg) : List Nat := xs.flatMap Arg.ts
def AOp.ts : AOp → List Nat
  | .mv x | .box _ x | .load _ _ x | .nilck x | .un _ x | .toInt _ x | .toStr x | .s2b _ x | .b2s x | .faddr _ x | .field _ _ _ x | .ext x _ | .lenS x | .lenT x | .capS x => x.ts
  | .pick c x y => c.ts ++ x.ts ++ y.ts
  | .alloc _ _ | .lenA _ => []
  | .build _ ps | .lit _ _ _ _ _ ps => psTs ps
  | .store _ x y | .bin _ x y | .eqb _ x y | .eqg _ _ x y | .eqn _ _ x y | .mks _ _ _ _ x y | .iadS _ x y | .iadA _ _ x y | .idxS x y | .idxA _ _ _ x y | .app _ _ _ x y | .cpy _ x y | .appM _ _ _ _ x y => x.ts ++ y.ts
  | .mkfn _ cap => xsTs cap
  | .sliceT x lo hi | .sliceS _ x lo hi | .slarr _ _ x lo hi => x.ts ++ oTs lo ++ oTs hi
  | .mm _ x ys => x.ts ++ xsTs ys
  | .mkmap => []
  | .look _ _ _ m x => m.ts ++ x.ts
  | .mset _ m x v => m.ts ++ x.ts ++ v.ts
def AO.ts : AO → List Nat
  | .op x => x.ts
  | .call _ xs => xsTs xs
  | .callv g xs => g.ts ++ xsTs xs
  | .bad => []
def AOp.loud : AOp → Bool
  | .alloc .. | .box .. | .store .. | .s2b .. | .mks .. | .app .. | .appM .. | .cpy .. | .mkmap | .mset .. => true
  | .lit obj .. => obj
  | _ => false
def AOp.read : AOp → Bool
  | .load .. | .iadS .. | .b2s .. | .eqn .. | .slarr .. | .look .. => true
  | _ => false
def AO.loud : AO → Bool
  | .op x => x.loud
  | _ => true
def AO.read : AO → Bool
  | .op x => x.read
  | _ => false

section
variable {P : Program} {fr fr' : AFrame} {H H' : Heap} {v : AV}
theorem ev_congr {x : Arg} (h : ∀ t ∈ x.ts, fr t = fr' t) : x.ev fr = x.ev fr' := by cases x with | t n => exact h n (by simp [Arg.ts]) | c v => rfl
theorem evO_congr {x : Option Arg} (h : ∀ t ∈ oTs x, fr t = fr' t) : x.map (·.ev fr) = x.map (·.ev fr') := by cases x with | none => rfl | some x => exact congrArg some (ev_congr h)
theorem evs_congr : ∀ {xs : List Arg}, (∀ t ∈ xsTs xs, fr t = fr' t) → xs.map (·.ev fr) = xs.map (·.ev fr')
  | [], _ => rfl
  | x :: r, h => by
    simp only [xsTs, List.flatMap_cons, List.mem_append] at h
    simp only [List.map_cons]
    rw [ev_congr fun t ht => h t (.inl ht), evs_congr fun t ht => h t (.inr ht)]
theorem evParts_congr : ∀ {ps : List (Nat × Nat × Arg)}, (∀ t ∈ psTs ps, fr t = fr' t) → evParts fr ps = evParts fr' ps
  | [], _ => rfl
  | x :: r, h => by
    simp only [psTs, List.flatMap_cons, List.mem_append] at h
    have h2 := evParts_congr (ps := r) fun t ht => h t (.inr ht)
    simp only [evParts, List.map_cons] at h2 ⊢
    rw [ev_congr fun t ht => h t (.inl ht), h2]
theorem opS_congr {x : AOp} (h : ∀ t ∈ x.ts, fr t = fr' t) : opS x fr H = opS x fr' H := by
  cases x <;> simp only [AOp.ts, List.mem_append] at h <;> simp only [opS]
  case mv x => rw [ev_congr h]
  case pick c x y => rw [ev_congr (x := c) fun t ht => h t (.inl (.inl ht)), ev_congr (x := x) fun t ht => h t (.inl (.inr ht)), ev_congr (x := y) fun t ht => h t (.inr ht)]
  case box t x => rw [ev_congr h]
  case build => rw [evParts_congr h]
  case lit => rw [evParts_congr h]
  case load => rw [ev_congr h]
  case store n x y => rw [ev_congr (x := x) fun t ht => h t (.inl ht), ev_congr (x := y) fun t ht => h t (.inr ht)]
  case nilck => rw [ev_congr h]
  case bin o x y => rw [ev_congr (x := x) fun t ht => h t (.inl ht), ev_congr (x := y) fun t ht => h t (.inr ht)]
  case eqb o x y => rw [ev_congr (x := x) fun t ht => h t (.inl ht), ev_congr (x := y) fun t ht => h t (.inr ht)]
  case eqg o gs x y => rw [ev_congr (x := x) fun t ht => h t (.inl ht), ev_congr (x := y) fun t ht => h t (.inr ht)]
  case eqn k o x y => rw [ev_congr (x := x) fun t ht => h t (.inl ht), ev_congr (x := y) fun t ht => h t (.inr ht)]
  case un => rw [ev_congr h]
  case toInt => rw [ev_congr h]
  case toStr => rw [ev_congr h]
  case s2b => rw [ev_congr h]
  case b2s => rw [ev_congr h]
  case mkfn => rw [evs_congr h]
  case mks a b c d x y => rw [ev_congr (x := x) fun t ht => h t (.inl ht), ev_congr (x := y) fun t ht => h t (.inr ht)]
  case sliceT x lo hi => rw [ev_congr (x := x) fun t ht => h t (.inl (.inl ht)), evO_congr (x := lo) fun t ht => h t (.inl (.inr ht)), evO_congr (x := hi) fun t ht => h t (.inr ht)]
  case sliceS a x lo hi => rw [ev_congr (x := x) fun t ht => h t (.inl (.inl ht)), evO_congr (x := lo) fun t ht => h t (.inl (.inr ht)), evO_congr (x := hi) fun t ht => h t (.inr ht)]
  case slarr a b x lo hi => rw [ev_congr (x := x) fun t ht => h t (.inl (.inl ht)), evO_congr (x := lo) fun t ht => h t (.inl (.inr ht)), evO_congr (x := hi) fun t ht => h t (.inr ht)]
  case faddr => rw [ev_congr h]
  case field => rw [ev_congr h]
  case iadS a x y => rw [ev_congr (x := x) fun t ht => h t (.inl ht), ev_congr (x := y) fun t ht => h t (.inr ht)]
  case iadA a b x y => rw [ev_congr (x := x) fun t ht => h t (.inl ht), ev_congr (x := y) fun t ht => h t (.inr ht)]
  case idxS x y => rw [ev_congr (x := x) fun t ht => h t (.inl ht), ev_congr (x := y) fun t ht => h t (.inr ht)]
  case idxA a b c x y => rw [ev_congr (x := x) fun t ht => h t (.inl ht), ev_congr (x := y) fun t ht => h t (.inr ht)]
  case ext => rw [ev_congr h]
  case lenS => rw [ev_congr h]
  case lenT => rw [ev_congr h]
  case capS => rw [ev_congr h]
  case appM a b c d x y => rw [ev_congr (x := x) fun t ht => h t (.inl ht), ev_congr (x := y) fun t ht => h t (.inr ht)]
  case app a b c x y => rw [ev_congr (x := x) fun t ht => h t (.inl ht), ev_congr (x := y) fun t ht => h t (.inr ht)]
  case cpy a x y => rw [ev_congr (x := x) fun t ht => h t (.inl ht), ev_congr (x := y) fun t ht => h t (.inr ht)]
  case mm m x ys => rw [ev_congr (x := x) fun t ht => h t (.inl ht), evs_congr (xs := ys) fun t ht => h t (.inr ht)]
  case look a b c m x => rw [ev_congr (x := m) fun t ht => h t (.inl ht), ev_congr (x := x) fun t ht => h t (.inr ht)]
  case mset a m x v => rw [ev_congr (x := m) fun t ht => h t (.inl (.inl ht)), ev_congr (x := x) fun t ht => h t (.inl (.inr ht)), ev_congr (x := v) fun t ht => h t (.inr ht)]
theorem OpA_congr {x : AO} (h : ∀ t ∈ x.ts, fr t = fr' t) (k : OpA P x fr H v H') : OpA P x fr' H v H' := by
  cases x with
  | op x => simp only [OpA] at k ⊢; rw [← opS_congr h]; exact k
  | call f xs => simp only [OpA] at k ⊢; rw [← evs_congr h]; exact k
  | callv g xs =>
    simp only [OpA] at k ⊢
    simp only [AO.ts, List.mem_append] at h
    rw [← ev_congr (x := g) fun t ht => h t (.inl ht), ← evs_congr (xs := xs) fun t ht => h t (.inr ht)]; exact k
  | bad => exact k.elim
theorem same_quiet {x : Option AV} (h : same H x = some (v, H')) : H' = H := (same_ok h).2
/-- What is not loud leaves the memory. -/
theorem opS_quiet {x : AOp} (hl : x.loud = false) (h : opS x fr H = some (v, H')) : H' = H := by
  cases x <;> simp only [AOp.loud] at hl <;> first | cases hl | skip
  all_goals simp only [opS] at h
  all_goals repeat' split at h
  all_goals first
    | exact (same_ok h).2
    | (injection h with h; injection h with _ h; exact h.symm)
    | cases h
    | skip
  all_goals (subst_vars; simp_all)
theorem opS_pure {x : AOp} (hl : x.loud = false) (hr : x.read = false) (h : opS x fr H = some (v, H')) (G : Heap) : opS x fr G = some (v, G) := by
  cases x <;> simp only [AOp.loud, AOp.read] at hl hr <;> first | cases hl | cases hr | skip
  all_goals simp only [opS] at h ⊢
  all_goals repeat' split at h
  all_goals first
    | (have := (same_ok h).1; simp_all [same]; done)
    | (injection h with h; injection h with h1 h2; subst h1; simp_all; done)
    | cases h
    | skip
end
end Go.Proofs.Ah

