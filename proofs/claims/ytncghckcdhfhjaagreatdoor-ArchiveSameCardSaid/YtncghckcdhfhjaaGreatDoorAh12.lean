/- A function, abstractly; its contract from the walk. -/
import Derived.Test.YtncghckcdhfhjaaGreatDoorAh11
set_option linter.unusedVariables false
set_option linter.unusedSimpArgs false
namespace Go.Proofs.Ah
open Go

def fstsOf (l : List (AOper × List Nat)) : List AOper := l.map (·.1)
inductive ARes where
  | t (n : Nat)
  | cell (t n : Nat) (agg : Bool)
structure AFunc where
  nt : Nat
  code : ACode
  res : List ARes
def cRes (P : Program) : ResultVar → Option ARes
  | .tmp t => some (.t t)
  | .cell a ty => match isAggP P ty, sizeP P ty with
    | some agg, some n => if agg = false → n = 1 then some (.cell a n agg) else none
    | _, _ => none
def cFunc (P : Program) (obj : Bool) (f : FuncId) : Option AFunc :=
  match P.funcs[f]? with
  | some fn => match fn.body with
    | some c => match cCode P obj fn.ntmps 1000 c, fn.results.toList.mapM (cRes P) with
      | some x, some rs => if callOkB P f = true then some ⟨fn.ntmps, x, rs⟩ else none
      | _, _ => none
    | none => none
  | none => none
def IsFun (P : Program) (f : FuncId) (F : AFunc) : Prop :=
  CallOk P f ∧ ∃ fn c obj, P.funcs[f]? = some fn ∧ fn.body = some c ∧ Is P obj F.nt F.code c ∧ fn.ntmps = F.nt ∧ fn.results.toList.mapM (cRes P) = some F.res
theorem cFunc_is {P : Program} {obj : Bool} {f : FuncId} {F : AFunc} (h : cFunc P obj f = some F) : IsFun P f F := by
  unfold cFunc at h
  split at h
  · rename_i fn hf
    split at h
    · rename_i c hc
      split at h
      · rename_i x rs hx hr
        split at h
        · rename_i hok
          injection h with h; subst h
          exact ⟨callOk_of hok, fn, c, obj, hf, hc, cCode_is _ _ _ hx, rfl, hr⟩
        · cases h
      · cases h
    · cases h
  · cases h

def resA (fr : AFrame) (H : Heap) : ARes → Option AV
  | .t n => some (fr n)
  | .cell t n agg => match loadA H (fr t) n with
    | some vs => mkA agg vs
    | none => none
def resAs (fr : AFrame) (H : Heap) : List ARes → Option (List AV)
  | [] => some []
  | r :: rs => match resA fr H r, resAs fr H rs with
    | some v, some vs => some (v :: vs)
    | _, _ => none
def retA (rs : List ARes) (fr : AFrame) (H : Heap) : Option AV :=
  match resAs fr H rs with
  | some [v] => some v
  | some vs => some (.tup vs)
  | none => none
def entryFr (args : List AV) : AFrame := fun t => args.getD t (.tup [])

section
variable {P : Program} {B : Nat} {μ : Nat → Pl} {H : Heap} {w : World} {fr : AFrame} {a : Act}

theorem load_run {xv : Value} {x : AV} (s : Sim B μ H w) (hx : VR μ H w x xv) {t : TypeId} {n : Nat} {agg : Bool} (hA : isAggP P t = some agg) (hs : sizeP P t = some n) (h1 : agg = false → n = 1) {vs : List AV} {v : AV} (h : loadA H x n = some vs) (hm : mkA agg vs = some v) :
    ∃ r, (do loadVar t (← asAddr xv) : Sem Value).run P w = .ok r w ∧ VR μ H w v r := by
  obtain ⟨hl, ad, us, rfl, hus, hcell⟩ := loadA_ok s hx h
  cases agg with
  | true =>
    simp only [mkA, ↓reduceIte] at hm; injection hm with hm; subst hm
    refine ⟨_, ?_, hus.agg⟩
    have := run_loadCells_list (P := P) w ad us hcell
    rw [hus.1, hl] at this
    simp [asAddr, loadVar, run_isAgg hA, run_sizeOf hs, this]
  | false =>
    have := h1 rfl
    subst this
    simp only [mkA, Bool.false_eq_true, ↓reduceIte] at hm
    split at hm
    · injection hm with hm; subst hm
      obtain ⟨u, u1, u2, u3⟩ := hus.2 0 (by simp)
      have hc := hcell 0 u u1
      have h0 : ad.add 0 = ad := by simp [Addr.add]
      rw [h0] at hc
      exact ⟨u, by simp [asAddr, loadVar, run_isAgg hA, hc], u3⟩
    · cases hm

def resRun (tmps : Array Value) : ResultVar → Sem Value
  | .tmp t => pure (tmps.getD t undef)
  | .cell a t => do loadVar t (← asAddr (tmps.getD a undef))
theorem resRun_ok (s : Sim B μ H w) (F : FR μ H w fr a) {r : ResultVar} {x : ARes} (hc : cRes P r = some x) {v : AV} (h : resA fr H x = some v) : ∃ u, (resRun a.tmps r).run P w = .ok u w ∧ VR μ H w v u := by
  cases r with
  | tmp t =>
    simp only [cRes] at hc; injection hc with hc; subst hc
    simp only [resA] at h; injection h with h; subst h
    exact ⟨_, by simp [resRun], F.val t⟩
  | cell ad ty =>
    simp only [cRes] at hc
    split at hc
    · rename_i agg n hA hn
      split at hc
      · rename_i h1
        injection hc with hc; subst hc
        simp only [resA] at h
        split at h
        · rename_i vs hvs
          exact load_run s (F.val ad) hA hn h1 hvs h
        · cases h
      · cases hc
    · cases hc
theorem resRuns_ok (s : Sim B μ H w) (F : FR μ H w fr a) : ∀ {rs : List ResultVar} {xs : List ARes}, rs.mapM (cRes P) = some xs → ∀ {vs : List AV}, resAs fr H xs = some vs → ∃ us : List Value, (rs.mapM (resRun a.tmps)).run P w = .ok us w ∧ us.length = vs.length ∧ ∀ i (h : i < vs.length) (h' : i < us.length), VR μ H w vs[i] us[i]
  | [], xs, hc, vs, h => by
    simp only [List.mapM_nil] at hc; injection hc with hc; subst hc
    simp only [resAs] at h; injection h with h; subst h
    exact ⟨[], by simp, rfl, fun i h => by simp at h⟩
  | r :: rs, xs, hc, vs, h => by
    rw [List.mapM_cons] at hc
    cases hr : cRes P r with
    | none => rw [hr] at hc; cases hc
    | some x =>
      rw [hr] at hc
      cases hrs : rs.mapM (cRes P) with
      | none => rw [hrs] at hc; cases hc
      | some ys =>
        rw [hrs] at hc
        injection hc with hc; subst hc
        simp only [resAs] at h
        split at h
        · rename_i v vs' hv hvs
          injection h with h; subst h
          obtain ⟨u, u1, u2⟩ := resRun_ok (P := P) s F hr hv
          obtain ⟨us, e1, e2, e3⟩ := resRuns_ok s F hrs hvs
          refine ⟨u :: us, by simp [List.mapM_cons, u1, e1], by simp [e2], fun i h1 h2 => ?_⟩
          cases i with
          | zero => exact u2
          | succ i => exact e3 i (by simpa using h1) (by simpa using h2)
        · cases h
theorem results_ok (s : Sim B μ H w) (F : FR μ H w fr a) {fn : Func} {rs : List ARes} (hc : fn.results.toList.mapM (cRes P) = some rs) {v : AV} (h : retA rs fr H = some v) : ∃ u, (results fn a.tmps).run P w = .ok u w ∧ VR μ H w v u := by
  have hrun : results fn a.tmps = (do let vs ← fn.results.mapM (resRun a.tmps); pure (if h : vs.size = 1 then vs[0] else .tuple vs)) := by
    unfold results
    congr 1
  have hm : fn.results.mapM (resRun a.tmps) = List.toArray <$> fn.results.toList.mapM (resRun a.tmps) := by
    rw [← List.mapM_toArray]
  rw [hrun, hm]
  unfold retA at h
  cases hv : resAs fr H rs with
  | none => rw [hv] at h; cases h
  | some vs =>
    rw [hv] at h
    obtain ⟨us, e1, e2, e3⟩ := resRuns_ok s F hc hv
    simp only [map_eq_pure_bind, bind_assoc, pure_bind, Sem.run_bind, e1, Result.andThen_ok, Sem.run_pure]
    match vs, h, e2, e3 with
    | [x], h, e2, e3 =>
      injection h with h; subst h
      match us, e2, e3 with
      | [u], _, e3 => exact ⟨u, rfl, e3 0 (by simp) (by simp)⟩
    | [], h, e2, e3 =>
      injection h with h; subst h
      match us, e2 with
      | [], _ => exact ⟨.tuple #[], rfl, .tup _ _ rfl fun i h => by simp at h⟩
    | x :: y :: r, h, e2, e3 =>
      injection h with h; subst h
      refine ⟨.tuple us.toArray, ?_, .tup _ _ (by simpa using e2) fun i h h' => by simpa using e3 i h (by simpa using h')⟩
      rw [dif_neg (by simp [e2])]

theorem entry_ok {args : List AV} {xs : Array Value} (h : VRv μ H w args xs) {nt : Nat} (hn : args.length ≤ nt) : FRn nt μ H w (entryFr args) { tmps := xs ++ Array.replicate (nt - xs.size) undef, defers := [] } := by
  refine ⟨⟨fun t => ?_⟩, by simp [h.1]; omega, rfl⟩
  unfold entryFr
  by_cases ht : t < args.length
  · have e1 : args.getD t (.tup []) = args[t] := by rw [List.getD_eq_getElem?_getD, List.getElem?_eq_getElem ht]; rfl
    have e2 : (xs ++ Array.replicate (nt - xs.size) undef).getD t undef = xs[t]'(by rw [h.1]; exact ht) := by
      rw [Array.getD_eq_getD_getElem?, Array.getElem?_append_left (by rw [h.1]; exact ht), Array.getElem?_eq_getElem (by rw [h.1]; exact ht)]; rfl
    rw [e1, e2]
    exact h.2 t ht _
  · have e1 : args.getD t (.tup []) = .tup [] := by rw [List.getD_eq_getElem?_getD, List.getElem?_eq_none (by omega)]; rfl
    have e2 : (xs ++ Array.replicate (nt - xs.size) undef).getD t undef = .tuple #[] := by
      rw [Array.getD_eq_getD_getElem?, Array.getElem?_append_right (by rw [h.1]; omega)]
      rw [Array.getElem?_replicate]
      split <;> rfl
    rw [e1, e2]
    exact .tup [] #[] rfl fun i h => by simp at h

/-- The end of a walk: the code came to its end, or to a return. -/
def atEnd (K : AFrame → Heap → Prop) : APost
  | .normal => K
  | .ret => K
  | _ => fun _ _ => False

theorem acall_core {f : FuncId} {F : AFunc} (hF : IsFun P f F) {args : List AV} {H : Heap} (hn : args.length ≤ F.nt) {r : AV} {H' : Heap}
    (h : wpA P F.code (atEnd fun fr1 H1 => ∃ v, retA F.res fr1 H1 = some v ∧ ∀ B μ0 w0 μ w x, Sim B μ0 H w0 → Sim B μ H1 w → Ext μ0 H w0 μ H1 w → VR μ H1 w v x → ∃ μ', Sim B μ' H' w ∧ Ext μ0 H w0 μ' H' w ∧ VR μ' H' w r x) (entryFr args) H) :
    ACall P f args H r H' := by
  obtain ⟨hok, fn, c, obj, hf, hc, hI, hnt, hr⟩ := hF
  refine ⟨hok, fun B μ w xs s hx => calls_of_wp hf hc ?_⟩
  rw [hnt]
  refine wp_mono (wpA_sound F.code c hI s (entry_ok hx hn) h) fun e a' w' he => ?_
  obtain ⟨e', fr', H1, μ', rfl, hq, s', E, F'⟩ := he
  have key : ∀ v, retA F.res fr' H1 = some v → (∀ B μ0 w0 μ w x, Sim B μ0 H w0 → Sim B μ H1 w → Ext μ0 H w0 μ H1 w → VR μ H1 w v x → ∃ μ', Sim B μ' H' w ∧ Ext μ0 H w0 μ' H' w ∧ VR μ' H' w r x) →
      a'.defers = [] ∧ ∃ v, (results fn a'.tmps).run P w' = .ok v w' ∧ ∃ v' μ', Ending.returned v = .returned v' ∧ Sim B μ' H' w' ∧ Ext μ H w μ' H' w' ∧ VR μ' H' w' r v' := by
    intro v hv hk
    obtain ⟨u, u1, u2⟩ := results_ok s' F'.fr hr hv
    obtain ⟨μ2, q1, q2, q3⟩ := hk B μ w μ' w' u s s' E u2
    exact ⟨F'.df, u, u1, u, μ2, rfl, q1, q2, q3⟩
  cases e' with
  | normal => obtain ⟨v, hv, hk⟩ := hq; exact key v hv hk
  | ret => obtain ⟨v, hv, hk⟩ := hq; exact key v hv hk
  | exit id => exact hq
  | goto l => exact hq

theorem wpOpsA_mono {K K' : AFrame → Heap → Prop} (hk : ∀ fr H, K fr H → K' fr H) : ∀ (l : List AOper) (fr : AFrame) (H : Heap), wpOpsA P l K fr H → wpOpsA P l K' fr H
  | [], fr, H, h => hk _ _ h
  | o :: r, fr, H, h => by
    simp only [wpOpsA] at h ⊢
    split
    · rename_i hw; rw [hw] at h; obtain ⟨v, H', h1, h2⟩ := h; exact ⟨v, H', h1, wpOpsA_mono hk r _ _ h2⟩
    · rename_i hw; rw [hw] at h; exact wpOpsA_mono hk r _ _ h
    · rename_i hw; rw [hw] at h; exact h
theorem wpDrawA_mono {all : List AOper} {K K' : AFrame → Heap → Prop} (hk : ∀ fr H, K fr H → K' fr H) : ∀ (l : List (AOper × List Nat)) (hs : List Heap) (fr : AFrame) (H : Heap), wpDrawA P all l hs K fr H → wpDrawA P all l hs K' fr H
  | [], hs, fr, H, h => hk _ _ h
  | o :: r, hs, fr, H, h => by
    simp only [wpDrawA] at h ⊢
    split
    · rename_i hw; rw [hw] at h; obtain ⟨v, H', h1, h2, h3⟩ := h; exact ⟨v, H', h1, h2, wpDrawA_mono hk r _ _ _ h3⟩
    · rename_i hw; rw [hw] at h; exact wpDrawA_mono hk r _ _ _ h
    · rename_i hw; rw [hw] at h; exact h
theorem wpDrawE_mono {all : List AOper} {K K' : AFrame → Heap → Prop} (hk : ∀ fr H, K fr H → K' fr H) : ∀ (l : List (AOper × List Nat)) (m : Nat) (fr : AFrame) (H : Heap), wpDrawE P all l m K fr H → wpDrawE P all l m K' fr H
  | [], m, fr, H, h => hk _ _ h
  | o :: r, m, fr, H, h => by
    simp only [wpDrawE] at h ⊢
    split
    · rename_i hw; rw [hw] at h
      simp only at h
      split
      · rename_i hl
        rw [if_pos hl] at h
        obtain ⟨v, H', h1, h2⟩ := h
        refine ⟨v, H', h1, ?_⟩
        rcases h2 with ⟨e, h3, h4⟩ | ⟨h3, h4⟩
        · exact .inl ⟨e, h3, wpDrawE_mono hk r _ _ _ h4⟩
        · exact .inr ⟨h3, wpDrawA_mono hk r _ _ _ h4⟩
      · rename_i hl
        rw [if_neg hl] at h
        obtain ⟨v, H', h1, h2⟩ := h
        exact ⟨v, H', h1, wpDrawE_mono hk r _ _ _ h2⟩
    · rename_i hw; rw [hw] at h; exact wpDrawE_mono hk r _ _ _ h
    · rename_i hw; rw [hw] at h; exact h
theorem wpA_mono : ∀ (c : ACode) {Q Q' : APost} {fr : AFrame} {H : Heap}, (∀ e fr H, Q e fr H → Q' e fr H) → wpA P c Q fr H → wpA P c Q' fr H
  | .skip, Q, Q', fr, H, hq, h => hq _ _ _ h
  | .ops l, Q, Q', fr, H, hq, h => wpOpsA_mono (hq .normal) l fr H h
  | .draw all l, Q, Q', fr, H, hq, h => wpDrawE_mono (hq .normal) l _ fr H h
  | .seq x y, Q, Q', fr, H, hq, h => wpA_mono x (fun e fr H he => by
      cases e <;> simp only [thenA] at he ⊢
      · exact wpA_mono y hq he
      all_goals exact hq _ _ _ he) h
  | .cond c x y, Q, Q', fr, H, hq, ⟨b, h1, h2, h3⟩ => ⟨b, h1, fun e => wpA_mono x hq (h2 e), fun e => wpA_mono y hq (h3 e)⟩
  | .block id c, Q, Q', fr, H, hq, h => wpA_mono c (fun e fr H he => by
      cases e <;> simp only [inBlockA] at he ⊢
      case exit i => split at he <;> rename_i hi <;> simp only [hi, if_true, if_false] <;> exact hq _ _ _ he
      all_goals exact hq _ _ _ he) h
  | .loop c, Q, Q', fr, H, hq, ⟨I, n, h0, h1⟩ => ⟨I, n, h0, fun n fr H hI => wpA_mono c (fun e fr H he => by
      cases e <;> simp only [thenA] at he ⊢
      · exact he
      all_goals exact hq _ _ _ he) (h1 n fr H hI)⟩
  | .exit id, Q, Q', fr, H, hq, h => hq _ _ _ h
  | .scope c, Q, Q', fr, H, hq, h => wpA_mono c (fun e fr H he => by
      cases e <;> simp only [noGotoA] at he ⊢
      all_goals exact hq _ _ _ he) h
  | .jump l x y, Q, Q', fr, H, hq, ⟨J, h1, h2⟩ => by
    refine ⟨J, wpA_mono x (fun e fr H he => ?_) h1, fun n fr H hJ => wpA_mono y (fun e fr H he => ?_) (h2 n fr H hJ)⟩
    all_goals
      cases e <;> simp only [jumpA] at he ⊢
      all_goals first | exact he | exact hq _ _ _ he
  | .label _, Q, Q', fr, H, hq, h => hq _ _ _ h
  | .goto l, Q, Q', fr, H, hq, h => hq _ _ _ h
  | .ret, Q, Q', fr, H, hq, h => hq _ _ _ h
theorem atEnd_mono {K K' : AFrame → Heap → Prop} (hk : ∀ fr H, K fr H → K' fr H) (e : AExit) (fr : AFrame) (H : Heap) (h : atEnd K e fr H) : atEnd K' e fr H := by
  cases e <;> simp only [atEnd] at h ⊢
  · exact hk _ _ h
  · exact hk _ _ h

/-- All objects stay. -/
theorem acall_keep {f : FuncId} {F : AFunc} (hF : IsFun P f F) {args : List AV} {H : Heap} (hn : args.length ≤ F.nt) {r : AV} {H' : Heap}
    (h : wpA P F.code (atEnd fun fr1 H1 => retA F.res fr1 H1 = some r ∧ H1 = H') (entryFr args) H) : ACall P f args H r H' :=
  acall_core hF hn (wpA_mono _ (atEnd_mono fun fr1 H1 ⟨h1, h2⟩ => ⟨r, h1, fun B μ0 w0 μ w x s0 s E V => by subst h2; exact ⟨μ, s, E, V⟩⟩) h)

/-- New objects are forgotten: 'G' of them. -/
theorem acall_drop {f : FuncId} {F : AFunc} (hF : IsFun P f F) {args : List AV} {H : Heap} (hn : args.length ≤ F.nt) {r : AV} {H' : Heap} (hlen : H'.length = H.length)
    (hflat : ∀ (i : Nat) (o : AObj), H'[i]? = some o → H[i]? = some o ∨ o.flat H'.length = true)
    (h : wpA P F.code (atEnd fun fr1 H1 => ∃ v G k, retA F.res fr1 H1 = some v ∧ H1 = H' ++ G ∧ freezeA H1 H'.length k v = some r) (entryFr args) H) : ACall P f args H r H' := by
  refine acall_core hF hn (wpA_mono _ (atEnd_mono fun fr1 H1 ⟨v, G, k, h1, h2, h3⟩ => ⟨v, h1, fun B μ0 w0 μ w x s0 s E V => ?_⟩) h)
  subst h2
  have hE : Ext μ0 H w0 μ H' w := by
    refine ⟨E.os, E.tape, E.output, E.size, fun b hb ho => ⟨(E.keep b hb ho).1, own_app (E.keep b hb ho).2⟩, by omega, fun i hi => ?_⟩
    have := E.obj i hi
    rwa [totAt_app (by omega)] at this
  have hval : ∀ (i : Nat) (o : AObj), H'[i]? = some o → H[i]? = some o ∨ o.flat H'.length = true := hflat
  refine ⟨μ, ⟨fun i j hi hj => s.inj i j (by simp; omega) (by simp; omega), fun i hi => s.ge i (by simp; omega), s.le, ?_, ?_⟩, hE, freeze_ok s k h3 V⟩
  · intro i t g cs hi
    have hil := (List.getElem?_eq_some_iff.1 hi).1
    obtain ⟨arr, fz, q1, q2, q3, q4, q5, q6⟩ := s.cells i t g cs (by rw [List.getElem?_append_left hil]; exact hi)
    refine ⟨arr, fz, q1, q2, q3, q4, q5, fun j hj => ?_⟩
    obtain ⟨u, u1, u2, u3⟩ := q6 j hj
    refine ⟨u, u1, u2, ?_⟩
    rcases hflat i _ hi with h0 | h0
    · obtain ⟨arr0, fz0, _, _, _, _, _, p6⟩ := s0.cells i t g cs h0
      obtain ⟨u0, _, _, z3⟩ := p6 j hj
      exact z3.back (by omega) u3
    · simp only [AObj.flat, List.all_eq_true] at h0
      exact u3.flat (h0 _ (List.getElem_mem hj))
  · intro i es hi
    have hil := (List.getElem?_eq_some_iff.1 hi).1
    obtain ⟨en, clk, q1, q2, q3⟩ := s.maps i es (by rw [List.getElem?_append_left hil]; exact hi)
    refine ⟨en, clk, q1, q2, fun j hj => ?_⟩
    obtain ⟨u, u1, u2, u3⟩ := q3 j hj
    refine ⟨u, u1, ?_⟩
    rcases hflat i _ hi with h0 | h0
    · obtain ⟨en0, clk0, _, _, p3⟩ := s0.maps i es h0
      obtain ⟨u0, _, z2, z3⟩ := p3 j hj
      exact ⟨z2.back (by omega) u2, z3.back (by omega) u3⟩
    · simp only [AObj.flat, List.all_eq_true, Bool.and_eq_true] at h0
      have := h0 _ (List.getElem_mem hj)
      exact ⟨u2.flat this.1, u3.flat this.2⟩
/-- All that the function made is forgotten, but for what it gives back, as it is then. -/
theorem acall_pure {f : FuncId} {F : AFunc} (hF : IsFun P f F) {args : List AV} {H : Heap} (hn : args.length ≤ F.nt) {r : AV}
    (h : wpA P F.code (atEnd fun fr1 H1 => ∃ v G k, retA F.res fr1 H1 = some v ∧ H1 = H ++ G ∧ freezeA H1 H.length k v = some r) (entryFr args) H) : ACall P f args H r H :=
  acall_drop hF hn rfl (fun i o h => .inl h) h
/-- A value that tells what it is by itself. -/
def AV.plain : AV → Bool
  | .int .. | .bool _ | .str _ | .nilp | .nils | .nilf | .nilm => true
  | _ => false
theorem VR.ofPlain {v : AV} {x : Value} {μ' : Nat → Pl} {H' : Heap} {w' : World} (hv : v.plain = true) (h : VR μ H w v x) : VR μ' H' w' v x := by
  cases h <;> first
    | (simp [AV.plain] at hv; done)
    | constructor
/-- A new object comes back with the cells that the slice shows; what lies behind them is room. -/
theorem acall_trunc {f : FuncId} {F : AFunc} (hF : IsFun P f F) {args : List AV} {H : Heap} (hn : args.length ≤ F.nt) {t : TypeId} {ks : List AV} {len sz : Nat} (hks : ks.length = len * sz) (hp : ks.all AV.plain = true)
    (h : wpA P F.code (atEnd fun fr1 H1 => ∃ id tot cs G, retA F.res fr1 H1 = some (.slc id tot 0 len sz) ∧ H1 = H ++ G ∧ H.length ≤ id ∧ H1[id]? = some (.cells t true cs) ∧ cs.length = tot ∧ len * sz ≤ tot ∧ cs.take (len * sz) = ks) (entryFr args) H) :
    ACall P f args H (.slc H.length (len * sz) 0 len sz) (H ++ [.cells t true ks]) := by
  refine acall_core hF hn (wpA_mono _ (atEnd_mono fun fr1 H1 ⟨id, tot, cs, G, h1, h2, h3, h4, h5, h6, h7⟩ => ⟨_, h1, fun B μ0 w0 μ w x s0 s E V => ?_⟩) h)
  subst h2
  have hidl : id < (H ++ G).length := (List.getElem?_eq_some_iff.1 h4).1
  obtain ⟨arr, fz, q1, q2, q3, q4, q5, q6⟩ := s.cells id t true cs h4
  have hE0 : Ext μ0 H w0 μ H w := by
    refine ⟨E.os, E.tape, E.output, E.size, fun b hb ho => ⟨(E.keep b hb ho).1, own_app (E.keep b hb ho).2⟩, Nat.le_refl _, fun i hi => ?_⟩
    have := E.obj i hi
    rwa [totAt_app hi] at this
  have key : ∀ i, i < (H ++ [AObj.cells t true ks]).length → (i < H.length ∧ put μ H.length (μ id) i = μ i) ∨ (i = H.length ∧ put μ H.length (μ id) i = μ id) := by
    intro i hi
    by_cases h0 : i = H.length
    · subst h0; exact .inr ⟨rfl, put_same _ _ _⟩
    · simp at hi; exact .inl ⟨by omega, put_other _ _ h0⟩
  have ownE : ∀ b, own (put μ H.length (μ id)) (H ++ [AObj.cells t true ks]) b → own μ (H ++ G) b := by
    rintro b ⟨i, hi, e⟩
    rcases key i hi with ⟨a, e1⟩ | ⟨a, e1⟩
    · rw [e1] at e; exact ⟨i, by simp; omega, e⟩
    · rw [e1] at e; exact ⟨id, hidl, e⟩
  have hE : Ext μ0 H w0 (put μ H.length (μ id)) (H ++ [AObj.cells t true ks]) w := by
    refine ⟨E.os, E.tape, E.output, E.size, fun b hb ho => ⟨(E.keep b hb ho).1, fun e => (E.keep b hb ho).2 (ownE b e)⟩, by simp, fun i hi => ?_⟩
    have := E.obj i hi
    rw [totAt_app hi] at this ⊢
    rwa [put_other _ _ (by omega)]
  have back : ∀ {v : AV} {x0 x : Value}, VR μ0 H w0 v x0 → VR μ (H ++ G) w v x → VR (put μ H.length (μ id)) (H ++ [AObj.cells t true ks]) w v x := by
    intro v x0 x z0 z
    induction z0 generalizing x with
    | int => cases z; exact .int _ _
    | bool => cases z; exact .bool _
    | str => cases z; exact .str _
    | nilp => cases z; exact .nilp
    | nils => cases z; exact .nils
    | nilf => cases z; exact .nilf
    | nilm => cases z; exact .nilm
    | undef => exact .undef _
    | ptr id' tot' idx a hid hle ha =>
      cases z with
      | ptr _ _ _ a' hid' hle' ha' =>
        rw [totAt_app hid] at hle' ha'
        exact .ptr _ _ _ _ (by simp; omega) (by rw [totAt_app hid]; exact hle') (by rw [totAt_app hid, put_other _ _ (by omega)]; exact ha')
    | map id' r hid hr =>
      cases z with
      | map _ r' hid' hr' =>
        rw [totAt_app hid] at hr'
        exact .map _ _ (by simp; omega) (by rw [totAt_app hid, put_other _ _ (by omega)]; exact hr')
    | slc id' tot' off len' sz' a c hid hle hlc ha =>
      cases z with
      | slc _ _ _ _ _ a' c' hid' hle' hlc' ha' =>
        rw [totAt_app hid] at hle' ha'
        exact .slc _ _ _ _ _ _ _ (by simp; omega) (by rw [totAt_app hid]; exact hle') hlc' (by rw [totAt_app hid, put_other _ _ (by omega)]; exact ha')
    | lst0 sz' full a c hf =>
      cases z with
      | lst0 _ _ a' c' hf' => exact .lst0 _ _ _ _ hf'
      | lst _ _ _ _ b o c u hn hl hlc hf' hc h1 hv hown hb => exact absurd hn (by simp)
    | pim cs' k b o u hc h1 hv hown hb ih =>
      cases z with
      | pim _ _ b' o' u' hc' h1' hv' hown' hb' => exact .pim _ _ _ _ u' hc' h1' (fun i hi => ih i hi (hv' i hi)) (fun e => hown' (ownE _ e)) hb'
    | lst n sz' full cs' b o c u hn hl hlc hf hc h1 hv hown hb ih =>
      cases z with
      | lst0 => exact absurd hn (by simp)
      | lst _ _ _ _ b' o' c' u' hn' hl' hlc' hf' hc' h1' hv' hown' hb' => exact .lst _ _ _ _ _ _ _ u' hn' hl' hlc' hf' hc' h1' (fun i hi => ih i hi (hv' i hi)) (fun e => hown' (ownE _ e)) hb'
    | fn f' cap cv hs hv ih =>
      cases z with
      | fn _ _ cv' hs' hv' => exact .fn _ _ _ hs' fun i h h' => ih i h (by omega) (hv' i h h')
    | agg cs' cv hs hv ih =>
      cases z with
      | agg _ cv' hs' hv' => exact .agg _ _ hs' fun i h h' => ih i h (by omega) (hv' i h h')
    | tup cs' cv hs hv ih =>
      cases z with
      | tup _ cv' hs' hv' => exact .tup _ _ hs' fun i h h' => ih i h (by omega) (hv' i h h')
  refine ⟨put μ H.length (μ id), ⟨fun i j hi hj e => ?_, fun i hi => ?_, s.le, fun i t' g' cs' hi => ?_, fun i es hi => ?_⟩, hE, ?_⟩
  · rcases key i hi with ⟨a, e1⟩ | ⟨a, e1⟩ <;> rcases key j hj with ⟨b, e2⟩ | ⟨b, e2⟩ <;> rw [e1, e2] at e
    · exact s.inj i j (by simp; omega) (by simp; omega) e
    · have := s.inj i id (by simp; omega) hidl e; omega
    · have := s.inj id j hidl (by simp; omega) e; omega
    · omega
  · rcases key i hi with ⟨a, e1⟩ | ⟨a, e1⟩ <;> rw [e1]
    · exact s.ge i (by simp; omega)
    · exact s.ge id hidl
  · by_cases h0 : i = H.length
    · subst h0
      rw [List.getElem?_append_right (Nat.le_refl _)] at hi
      simp at hi
      obtain ⟨rfl, rfl, rfl⟩ := hi
      rw [put_same]
      refine ⟨arr, fz, q1, q2, q3, by omega, fun e => by simp at e, fun k hk => ?_⟩
      obtain ⟨u, u1, u2, u3⟩ := q6 k (by omega)
      have hck : cs[k]'(by omega) = ks[k] := by
        subst h7; rw [List.getElem_take]
      rw [hck] at u3
      exact ⟨u, u1, u2, u3.ofPlain (List.all_eq_true.1 hp _ (List.getElem_mem hk))⟩
    · have hlt : i < H.length := by have := (List.getElem?_eq_some_iff.1 hi).1; simp at this; omega
      rw [List.getElem?_append_left hlt] at hi
      obtain ⟨arr', fz', a1, a2, a3, a4, a5, a6⟩ := s.cells i t' g' cs' (by rw [List.getElem?_append_left hlt]; exact hi)
      obtain ⟨_, _, _, _, _, _, _, p6⟩ := s0.cells i t' g' cs' hi
      rw [put_other _ _ h0]
      refine ⟨arr', fz', a1, a2, a3, a4, a5, fun k hk => ?_⟩
      obtain ⟨u, u1, u2, u3⟩ := a6 k hk
      obtain ⟨_, _, _, z3⟩ := p6 k hk
      exact ⟨u, u1, u2, back z3 u3⟩
  · by_cases h0 : i = H.length
    · subst h0
      rw [List.getElem?_append_right (Nat.le_refl _)] at hi
      simp at hi
    · have hlt : i < H.length := by have := (List.getElem?_eq_some_iff.1 hi).1; simp at this; omega
      rw [List.getElem?_append_left hlt] at hi
      obtain ⟨en, clk, a1, a2, a3⟩ := s.maps i es (by rw [List.getElem?_append_left hlt]; exact hi)
      obtain ⟨_, _, _, _, p3⟩ := s0.maps i es hi
      rw [put_other _ _ h0]
      refine ⟨en, clk, a1, a2, fun k hk => ?_⟩
      obtain ⟨e, e1, e2, e3⟩ := a3 k hk
      obtain ⟨_, _, z2, z3⟩ := p3 k hk
      exact ⟨e, e1, back z2 e2, back z3 e3⟩
  · cases V with
    | slc _ _ _ _ _ a c hid hle hlc ha =>
      have ht : totAt (H ++ G) id = tot := by rw [totAt_of h4]; exact h5
      have ht' : totAt (H ++ [AObj.cells t true ks]) H.length = len * sz := by rw [totAt_of (x := .cells t true ks) (by simp)]; exact hks
      refine .slc _ _ _ _ _ _ _ (by simp) (by omega) hlc fun _ hc0 => ?_
      rw [put_same]
      exact ha ht hc0
end
end Go.Proofs.Ah

