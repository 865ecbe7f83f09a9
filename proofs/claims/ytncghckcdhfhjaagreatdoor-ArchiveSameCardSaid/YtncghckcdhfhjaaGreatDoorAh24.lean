/- A contract shown with nothing in the memory holds in any memory, where no object comes in or goes out. -/
import Derived.Test.YtncghckcdhfhjaaGreatDoorAh23
import Derived.Below
set_option linter.unusedVariables false
set_option linter.unusedSimpArgs false
namespace Go.Proofs.Ah
open Go Go.RowKit

mutual
/-- No object in it. -/
def AV.free : AV → Bool
  | .ptr .. | .slc .. | .map _ => false
  | .lst _ _ _ cs => AV.frees cs
  | .pim cs _ => AV.frees cs
  | .agg cs => AV.frees cs
  | .tup cs => AV.frees cs
  | .fn _ cs => AV.frees cs
  | _ => true
def AV.frees : List AV → Bool
  | [] => true
  | v :: r => AV.free v && AV.frees r
end
mutual
/-- No memory in it. -/
def AV.bare : AV → Bool
  | .ptr .. | .slc .. | .map _ | .lst .. | .pim .. => false
  | .agg cs => AV.bares cs
  | .tup cs => AV.bares cs
  | .fn _ cs => AV.bares cs
  | _ => true
def AV.bares : List AV → Bool
  | [] => true
  | v :: r => AV.bare v && AV.bares r
end
theorem frees_get : ∀ {cs : List AV}, AV.frees cs = true → ∀ i (h : i < cs.length), cs[i].free = true
  | [], _, i, h => by simp at h
  | v :: r, hf, i, h => by
    simp only [AV.frees, Bool.and_eq_true] at hf
    cases i with
    | zero => exact hf.1
    | succ i => exact frees_get hf.2 i (by simpa using h)
theorem bares_get : ∀ {cs : List AV}, AV.bares cs = true → ∀ i (h : i < cs.length), cs[i].bare = true
  | [], _, i, h => by simp at h
  | v :: r, hf, i, h => by
    simp only [AV.bares, Bool.and_eq_true] at hf
    cases i with
    | zero => exact hf.1
    | succ i => exact bares_get hf.2 i (by simpa using h)
section
variable {μ μ' : Nat → Pl} {H H' : Heap} {w w' : World}
theorem not_own_nil {b : Nat} : ¬ own μ [] b := fun ⟨i, hi, _⟩ => by simp at hi
/-- What holds no object, seen with no objects. -/
theorem VR.free {v : AV} {x : Value} (h : VR μ H w v x) : v.free = true → VR μ' [] w v x := by
  induction h with
  | int => intro _; exact .int _ _
  | bool => intro _; exact .bool _
  | str => intro _; exact .str _
  | nilp => intro _; exact .nilp
  | nils => intro _; exact .nils
  | nilf => intro _; exact .nilf
  | nilm => intro _; exact .nilm
  | undef => intro _; exact .undef _
  | ptr => intro hf; simp [AV.free] at hf
  | slc => intro hf; simp [AV.free] at hf
  | map => intro hf; simp [AV.free] at hf
  | lst0 sz full a c hf => intro _; exact .lst0 _ _ _ _ hf
  | pim cs k b o u hc h1 hv hown hb ih =>
    intro hf; simp only [AV.free] at hf
    exact .pim cs k b o u hc h1 (fun i h => ih i h (frees_get hf i h)) not_own_nil hb
  | lst n sz full cs b o c u hn hl hlc hf' hc h1 hv hown hb ih =>
    intro hf; simp only [AV.free] at hf
    exact .lst n sz full cs b o c u hn hl hlc hf' hc h1 (fun i h => ih i h (frees_get hf i h)) not_own_nil hb
  | fn f cap cv hs hv ih => intro hf; simp only [AV.free] at hf; exact .fn f cap cv hs fun i h h' => ih i h h' (frees_get hf i h)
  | agg cs cv hs hv ih => intro hf; simp only [AV.free] at hf; exact .agg cs cv hs fun i h h' => ih i h h' (frees_get hf i h)
  | tup cs cv hs hv ih => intro hf; simp only [AV.free] at hf; exact .tup cs cv hs fun i h h' => ih i h h' (frees_get hf i h)
/-- What holds no memory, seen anywhere. -/
theorem VR.bare {v : AV} {x : Value} (h : VR μ H w v x) : v.bare = true → VR μ' H' w' v x := by
  induction h with
  | int => intro _; exact .int _ _
  | bool => intro _; exact .bool _
  | str => intro _; exact .str _
  | nilp => intro _; exact .nilp
  | nils => intro _; exact .nils
  | nilf => intro _; exact .nilf
  | nilm => intro _; exact .nilm
  | undef => intro _; exact .undef _
  | ptr => intro hf; simp [AV.bare] at hf
  | slc => intro hf; simp [AV.bare] at hf
  | map => intro hf; simp [AV.bare] at hf
  | lst0 => intro hf; simp [AV.bare] at hf
  | pim => intro hf; simp [AV.bare] at hf
  | lst => intro hf; simp [AV.bare] at hf
  | fn f cap cv hs hv ih => intro hf; simp only [AV.bare] at hf; exact .fn f cap cv hs fun i h h' => ih i h h' (bares_get hf i h)
  | agg cs cv hs hv ih => intro hf; simp only [AV.bare] at hf; exact .agg cs cv hs fun i h h' => ih i h h' (bares_get hf i h)
  | tup cs cv hs hv ih => intro hf; simp only [AV.bare] at hf; exact .tup cs cv hs fun i h h' => ih i h h' (bares_get hf i h)
end
theorem acall_any {P : Program} {f : FuncId} {args : List AV} {r : AV} (h : ACall P f args [] r []) (ha : AV.frees args = true) (hr : r.bare = true) (H : Heap) : ACall P f args H r H := by
  refine ⟨h.1, fun B μ w xs s hx => ?_⟩
  have hs : Sim w.heap.size μ [] w := ⟨fun i j hi => by simp at hi, fun i hi => by simp at hi, Nat.le_refl _, fun i t g cs hi => by simp at hi, fun i es hi => by simp at hi⟩
  refine (h.2 w.heap.size μ w xs hs ⟨hx.1, fun i hi hi' => (hx.2 i hi hi').free (frees_get ha i hi)⟩).mono ?_
  rintro e w' ⟨v, μ', rfl, s', E, V⟩
  have E' : Ext μ H w μ H w' := ⟨E.os, E.tape, E.output, E.size, fun b hb ho => ⟨(E.keep b hb not_own_nil).1, ho⟩, Nat.le_refl _, fun i hi => .inr ⟨rfl, rfl⟩⟩
  exact ⟨v, μ, rfl, s.same E' fun b hb => (E.keep b (s.own_lt hb) not_own_nil).1, E', V.bare hr⟩

/-! #### facts found by the machine, kept as a table's rows -/
noncomputable def memoP (args : List AV) (r : AV) : List AV → HS → Option AV := fun xs h => sel (eqL (eqAV 100) xs args) (some r) none
theorem memo_ok {P : Program} {f : FuncId} {args : List AV} {r : AV} (h : ACall P f args [] r []) (ha : AV.frees args = true) (hr : r.bare = true) : EntOk P f (.prim (memoP args r)) := by
  intro xs hs H v hrep hv
  unfold memoP at hv
  rw [sel_eq] at hv
  split at hv
  · rename_i he
    injection hv with hv; subst hv
    rw [eqL_ok (eqAV_ok 100) _ _ he]
    exact acall_any h ha hr H
  · cases hv
/-- One row or the other. -/
noncomputable def orP (g g' : List AV → HS → Option AV) : List AV → HS → Option AV := fun xs h => @Option.rec AV (fun _ => Option AV) (g' xs h) some (g xs h)
theorem or_ok {P : Program} {f : FuncId} {g g' : List AV → HS → Option AV} (h : EntOk P f (.prim g)) (h' : EntOk P f (.prim g')) : EntOk P f (.prim (orP g g')) := by
  intro xs hs H v hrep hv
  unfold orP at hv
  cases hg : g xs hs with
  | none => rw [hg] at hv; exact h' xs hs H v hrep hv
  | some w => rw [hg] at hv; injection hv with hv; subst hv; exact h xs hs H w hrep hg
/-- The machine comes to this value. -/
theorem run_any {P : Program} {T : Tab} (hT : TabOk P T) {N n : Nat} {f : FuncId} {args : List AV} {r : AV} (h : isSame (runF T N n 0 f args ⟨.e, 0⟩) (fun v => eqAV 100 v r) = true) : ACall P f args [] r [] := by
  have hx := runF_ok hT N n 0 f args ⟨.e, 0⟩ [] .nil (Nat.zero_le _)
  cases hr : runF T N n 0 f args ⟨.e, 0⟩ with
  | no => rw [hr] at h; cases h
  | new v h' => rw [hr] at h; cases h
  | same v =>
    rw [hr] at h hx
    have h : eqAV 100 v r = true := h
    rw [← eqAV_ok _ _ _ h]; exact hx
/-- A contract for lists that nobody writes holds for objects that read so. -/
theorem acall_view {P : Program} {f : FuncId} {args args' : List AV} {r : AV} (h : ACall P f args' [] r []) {H : Heap} {k : Nat} (ha : args.mapM (freezeA H 0 k) = some args') (hr : r.bare = true) : ACall P f args H r H := by
  refine ⟨h.1, fun B μ w xs s hx => ?_⟩
  obtain ⟨k1, k2⟩ := mapM_get ha
  have hs : Sim w.heap.size μ [] w := ⟨fun i j hi => by simp at hi, fun i hi => by simp at hi, Nat.le_refl _, fun i t g cs hi => by simp at hi, fun i es hi => by simp at hi⟩
  refine (h.2 w.heap.size μ w xs hs ⟨by rw [hx.1, k1], fun i hi hi' => ?_⟩).mono ?_
  · obtain ⟨y, hy, hfy⟩ := k2 i (args[i]'(by omega)) (List.getElem?_eq_getElem (by omega))
    rw [List.getElem?_eq_getElem hi] at hy; injection hy with hy
    rw [hy]
    exact freeze_ok (H := []) (G := H) s k hfy (hx.2 i (by omega) hi')
  · rintro e w' ⟨v, μ', rfl, s', E, V⟩
    have E' : Ext μ H w μ H w' := ⟨E.os, E.tape, E.output, E.size, fun b hb ho => ⟨(E.keep b hb not_own_nil).1, ho⟩, Nat.le_refl _, fun i hi => .inr ⟨rfl, rfl⟩⟩
    exact ⟨v, μ, rfl, s.same E' fun b hb => (E.keep b (s.own_lt hb) not_own_nil).1, E', V.bare hr⟩
noncomputable def primB (g : List AV → Option AV) : List AV → HS → Option AV := fun xs h => @Option.rec (List AV) (fun _ => Option AV) none g (mapO (freezeF h 0 100) xs)
theorem primB_ok {P : Program} {f : FuncId} {g : List AV → Option AV} (hg : ∀ args r, g args = some r → ACall P f args [] r [] ∧ r.bare = true) : EntOk P f (.prim (primB g)) := by
  intro xs h H v hrep hv
  have hv : @Option.rec (List AV) (fun _ => Option AV) none g (mapO (freezeF h 0 100) xs) = some v := hv
  rw [mapO_eq] at hv
  cases hm : xs.mapM (freezeF h 0 100) with
  | none => rw [hm] at hv; cases hv
  | some args' =>
    rw [hm] at hv
    obtain ⟨h1, h2⟩ := hg args' v hv
    rw [funext (freezeF_eq hrep 0 100)] at hm
    exact acall_view h1 hm h2
/-- Numbers of one kind. -/
noncomputable def natsF (k : Nat) (cs : List AV) : Option (List Nat) := @List.rec AV (fun _ => Option (List Nat)) (some [])
  (fun v _ ih => isNat v (fun k' n => sel (Nat.beq (kno k') k) (@Option.rec (List Nat) (fun _ => Option (List Nat)) none (fun l => natK n fun n => some (n :: l)) ih) none) none) cs
theorem natsF_ok {k : IntKind} : ∀ {cs : List AV} {ws : List Nat}, natsF (kno k) cs = some ws → cs = nats k ws
  | [], ws, h => by
    have h : some [] = some ws := h
    injection h with h; subst h; rfl
  | v :: r, ws, h => by
    have h : isNat v (fun k' n => sel (Nat.beq (kno k') (kno k)) (@Option.rec (List Nat) (fun _ => Option (List Nat)) none (fun l => natK n fun n => some (n :: l)) (natsF (kno k) r)) none) none = some ws := h
    cases v with
    | int k' a =>
      cases a with
      | ofNat n =>
        have h : sel (Nat.beq (kno k') (kno k)) (@Option.rec (List Nat) (fun _ => Option (List Nat)) none (fun l => natK n fun n => some (n :: l)) (natsF (kno k) r)) none = some ws := h
        rw [sel_beq] at h
        split at h
        · rename_i hk
          have := kno_inj hk; subst this
          cases hr : natsF (kno k') r with
          | none => rw [hr] at h; cases h
          | some l =>
            rw [hr] at h
            have h : natK n (fun n => some (n :: l)) = some ws := h
            rw [natK_eq] at h
            injection h with h; subst h
            rw [natsF_ok hr, nats_cons]; rfl
        · cases h
      | negSucc n => cases h
    | _ => cases h
theorem bares_nats (k : IntKind) : ∀ ws : List Nat, AV.bares (nats k ws) = true
  | [] => rfl
  | w :: r => by rw [nats_cons]; simp only [AV.bares, bares_nats k r, Bool.and_true]; rfl
/-! #### contracts of Go's library, from the kit's shelf -/
/-- A call that leaves all that lies there: a contract. -/
theorem acall_below {P : Program} {f : FuncId} {args : List AV} {H : Heap} {r : AV} (hok : CallOk P f) (h : ∀ (μ : Nat → Pl) (w : World) (xs : Array Value), VRv μ H w args xs → Calls P f xs w fun e w' => ∃ v, e = .returned v ∧ Below w.heap.size w w' ∧ ∀ μ' H' w'', VR μ' H' w'' r v) : ACall P f args H r H := by
  refine ⟨hok, fun B μ w xs s hx => (h μ w xs hx).mono ?_⟩
  rintro e w' ⟨v, rfl, hb, V⟩
  have E : Ext μ H w μ H w' := ⟨hb.os, hb.tape, hb.output, hb.size, fun b hb' ho => ⟨hb.block b hb', ho⟩, Nat.le_refl _, fun i hi => .inr ⟨rfl, rfl⟩⟩
  exact ⟨v, μ, rfl, s.same E fun b hb' => hb.block b (s.own_lt hb'), E, V _ _ _⟩
/-- A contract without objects, as the kit states one. -/
theorem ACall.calls {P : Program} {f : FuncId} {args : List AV} {r : AV} (h : ACall P f args [] r []) (w : World) (xs : Array Value) (hx : ∀ μ, VRv μ [] w args xs) : Calls P f xs w fun e w' => ∃ v μ', e = .returned v ∧ Below w.heap.size w w' ∧ VR μ' [] w' r v := by
  have s : Sim w.heap.size (fun _ => ⟨0, 0⟩) [] w := ⟨fun i j hi => by simp at hi, fun i hi => by simp at hi, Nat.le_refl _, fun i t g cs hi => by simp at hi, fun i es hi => by simp at hi⟩
  refine (h.2 _ _ w xs s (hx _)).mono ?_
  rintro e w' ⟨v, μ', he, s', E, V⟩
  exact ⟨v, μ', he, ⟨E.os, E.tape, E.output, E.size, fun k hk => (E.keep k hk (by rintro ⟨i, hi, _⟩; simp at hi)).1⟩, V⟩
theorem VRv.one {μ : Nat → Pl} {H : Heap} {w : World} {a : AV} {xs : Array Value} (h : VRv μ H w [a] xs) : ∃ x, xs = #[x] ∧ VR μ H w a x := by
  obtain ⟨h1, h2⟩ := h
  match xs, h1 with
  | ⟨[x]⟩, _ => exact ⟨x, rfl, h2 0 (by simp) (by simp)⟩
theorem VRv.two {μ : Nat → Pl} {H : Heap} {w : World} {a b : AV} {xs : Array Value} (h : VRv μ H w [a, b] xs) : ∃ x y, xs = #[x, y] ∧ VR μ H w a x ∧ VR μ H w b y := by
  obtain ⟨h1, h2⟩ := h
  match xs, h1 with
  | ⟨[x, y]⟩, _ => exact ⟨x, y, rfl, h2 0 (by simp) (by simp), h2 1 (by simp) (by simp)⟩
/-- The texts of a list. -/
def strs (xs : List ByteArray) : List AV := xs.map AV.str
theorem VR.strs {μ : Nat → Pl} {H : Heap} {w : World} {n : Nat} {f : Bool} {xs : List ByteArray} {x : Value} (h : VR μ H w (.lst n 1 f (Ah.strs xs)) x) (h0 : xs ≠ []) : ∃ bk o c, x = .slice (some ⟨bk, o, none⟩) xs.length c ∧ bk < w.heap.size ∧ xs.length ≤ c ∧ ∀ (j : Nat) y, xs[j]? = some y → w.cell? ⟨bk, o + j, none⟩ = some (.string y) := by
  generalize hcs : Ah.strs xs = cs at h
  cases h with
  | lst0 sz full a c hf => exact absurd (by simpa [Ah.strs] using hcs) h0
  | lst _ _ _ _ b o c u hn hl hlc hf hc h1 hv hown hb =>
    subst hcs
    have hlen : n = xs.length := by simpa [Ah.strs] using hl.symm
    subst hlen
    refine ⟨b, o, c, rfl, hb, hlc, fun j y hy => ?_⟩
    obtain ⟨hj, rfl⟩ := List.getElem?_eq_some_iff.1 hy
    have hj' : j < (Ah.strs xs).length := by simpa [Ah.strs] using hj
    have hv' := hv j hj'
    have e : (Ah.strs xs)[j] = .str xs[j] := by simp [Ah.strs]
    rw [e] at hv'
    rw [hc j hj']
    generalize u j = q at hv'
    cases hv'; rfl
end Go.Proofs.Ah

