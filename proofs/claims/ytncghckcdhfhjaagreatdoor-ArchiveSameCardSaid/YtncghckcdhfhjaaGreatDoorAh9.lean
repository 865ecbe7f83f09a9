/- A drawn region that makes two slices and lays each into a place: either may be made first. -/
import Derived.Test.YtncghckcdhfhjaaGreatDoorAh8
set_option linter.unusedVariables false
set_option linter.unusedSimpArgs false
namespace Go.Proofs.Ah
open Go

/-- The last two objects change their numbers. -/
def swp (n : Nat) (μ : Nat → Pl) : Nat → Pl := fun i => if i = n then μ (n + 1) else if i = n + 1 then μ n else μ i
section
variable {B : Nat} {μ μ0 : Nat → Pl} {H : Heap} {w w0 : World} {o1 o2 : AObj}
theorem swp_lt {n i : Nat} (h : i < n) : swp n μ i = μ i := by simp only [swp]; rw [if_neg (by omega), if_neg (by omega)]
theorem swp_0 (n : Nat) : swp n μ n = μ (n + 1) := by simp [swp]
theorem swp_1 (n : Nat) : swp n μ (n + 1) = μ n := by simp [swp]
theorem len2 : (H ++ [o1, o2]).length = H.length + 2 := by simp
theorem own_swp {b : Nat} : own (swp H.length μ) (H ++ [o2, o1]) b ↔ own μ (H ++ [o1, o2]) b := by
  constructor
  · rintro ⟨i, hi, e⟩
    rw [len2] at hi
    by_cases h0 : i = H.length
    · subst h0; rw [swp_0] at e; exact ⟨H.length + 1, by rw [len2]; omega, e⟩
    · by_cases h1 : i = H.length + 1
      · subst h1; rw [swp_1] at e; exact ⟨H.length, by rw [len2]; omega, e⟩
      · rw [swp_lt (by omega)] at e; exact ⟨i, by rw [len2]; omega, e⟩
  · rintro ⟨i, hi, e⟩
    rw [len2] at hi
    by_cases h0 : i = H.length
    · subst h0; exact ⟨H.length + 1, by rw [len2]; omega, by rw [swp_1]; exact e⟩
    · by_cases h1 : i = H.length + 1
      · subst h1; exact ⟨H.length, by rw [len2]; omega, by rw [swp_0]; exact e⟩
      · exact ⟨i, by rw [len2]; omega, by rw [swp_lt (by omega)]; exact e⟩
theorem tot2 {i : Nat} (h : i < H.length) (x y : AObj) : totAt (H ++ [x, y]) i = totAt H i := totAt_append H _ i h
theorem get2_0 (x y : AObj) : (H ++ [x, y])[H.length]? = some x := by rw [List.getElem?_append_right (Nat.le_refl _)]; simp
theorem get2_1 (x y : AObj) : (H ++ [x, y])[H.length + 1]? = some y := by rw [List.getElem?_append_right (by omega)]; simp
/-- What held before the two were made. -/
theorem VR.swap {v : AV} {x0 : Value} (h0 : VR μ0 H w0 v x0) : ∀ {x : Value}, VR μ (H ++ [o1, o2]) w v x → VR (swp H.length μ) (H ++ [o2, o1]) w v x := by
  induction h0 with
  | int => intro x h; cases h; exact .int _ _
  | bool => intro x h; cases h; exact .bool _
  | str => intro x h; cases h; exact .str _
  | nilp => intro x h; cases h; exact .nilp
  | nils => intro x h; cases h; exact .nils
  | nilf => intro x h; cases h; exact .nilf
  | nilm => intro x h; cases h; exact .nilm
  | undef => intro x h; exact .undef _
  | ptr id tot idx a hid hle ha =>
    intro x h
    cases h with
    | ptr _ _ _ a' hid' hle' ha' =>
      rw [tot2 hid] at hle' ha'
      exact .ptr _ _ _ _ (by rw [len2]; omega) (by rw [tot2 hid]; exact hle') (by rw [tot2 hid, swp_lt hid]; exact ha')
  | map id r hid hr =>
    intro x h
    cases h with
    | map _ r' hid' hr' =>
      rw [tot2 hid] at hr'
      exact .map _ _ (by rw [len2]; omega) (by rw [tot2 hid, swp_lt hid]; exact hr')
  | slc id tot off len sz a c hid hle hlc ha =>
    intro x h
    cases h with
    | slc _ _ _ _ _ a' c' hid' hle' hlc' ha' =>
      rw [tot2 hid] at hle' ha'
      exact .slc _ _ _ _ _ _ _ (by rw [len2]; omega) (by rw [tot2 hid]; exact hle') hlc' (by rw [tot2 hid, swp_lt hid]; exact ha')
  | lst0 sz full a c hf =>
    intro x h
    cases h with
    | lst0 _ _ a' c' hf' => exact .lst0 _ _ _ _ hf'
    | lst _ _ _ _ b o c u hn hl hlc hf' hc h1 hv hown hb => exact absurd hn (by simp)
  | pim cs k b o u hc h1 hv hown hb ih =>
    intro x h
    cases h with
    | pim _ _ b' o' u' hc' h1' hv' hown' hb' => exact .pim _ _ _ _ u' hc' h1' (fun i hi => ih i hi (hv' i hi)) (fun e => hown' (own_swp.1 e)) hb'
  | lst n sz full cs b o c u hn hl hlc hf hc h1 hv hown hb ih =>
    intro x h
    cases h with
    | lst0 => exact absurd hn (by simp)
    | lst _ _ _ _ b' o' c' u' hn' hl' hlc' hf' hc' h1' hv' hown' hb' => exact .lst _ _ _ _ _ _ _ u' hn' hl' hlc' hf' hc' h1' (fun i hi => ih i hi (hv' i hi)) (fun e => hown' (own_swp.1 e)) hb'
  | fn f cap cv hs hv ih =>
    intro x h
    cases h with
    | fn _ _ cv' hs' hv' => exact .fn _ _ _ hs' fun i h h' => ih i h (by omega) (hv' i h h')
  | agg cs cv hs hv ih =>
    intro x h
    cases h with
    | agg _ cv' hs' hv' => exact .agg _ _ hs' fun i h h' => ih i h (by omega) (hv' i h h')
  | tup cs cv hs hv ih =>
    intro x h
    cases h with
    | tup _ cv' hs' hv' => exact .tup _ _ hs' fun i h h' => ih i h (by omega) (hv' i h h')
/-- Cells that are plain. -/
def plainC : AV → Bool
  | .int .. | .bool _ | .str _ | .nilp | .nils | .nilf | .nilm => true
  | _ => false
theorem VR.plain {v : AV} {x : Value} {μ' : Nat → Pl} {H' : Heap} {w' : World} (hv : plainC v = true) (h : VR μ H w v x) : VR μ' H' w' v x := by
  cases h <;> first
    | (simp [plainC] at hv; done)
    | constructor
theorem Sim.swap (s0 : Sim B μ0 H w0) {t1 t2 : TypeId} {g1 g2 : Bool} {c1 c2 : List AV} (h1 : c1.all plainC = true) (h2 : c2.all plainC = true) (s : Sim B μ (H ++ [.cells t1 g1 c1, .cells t2 g2 c2]) w) :
    Sim B (swp H.length μ) (H ++ [.cells t2 g2 c2, .cells t1 g1 c1]) w where
  inj i j hi hj e := by
    rw [len2] at hi hj
    have key : ∀ k, k < H.length + 2 → ∃ k', k' < H.length + 2 ∧ swp H.length μ k = μ k' ∧ (∀ m m', m < H.length + 2 → swp H.length μ m = μ m' → True) ∧ k' = (if k = H.length then H.length + 1 else if k = H.length + 1 then H.length else k) := by
      intro k hk
      by_cases h0 : k = H.length
      · exact ⟨H.length + 1, by omega, by rw [h0, swp_0], fun _ _ _ _ => trivial, by rw [if_pos h0]⟩
      · by_cases h1 : k = H.length + 1
        · exact ⟨H.length, by omega, by rw [h1, swp_1], fun _ _ _ _ => trivial, by rw [if_neg h0, if_pos h1]⟩
        · exact ⟨k, hk, swp_lt (by omega), fun _ _ _ _ => trivial, by rw [if_neg h0, if_neg h1]⟩
    obtain ⟨i', hi', ei, _, ci⟩ := key i hi
    obtain ⟨j', hj', ej, _, cj⟩ := key j hj
    rw [ei, ej] at e
    have := s.inj i' j' (by rw [len2]; omega) (by rw [len2]; omega) e
    rw [ci, cj] at this
    split at this <;> split at this <;> (try split at this) <;> (try split at this) <;> omega
  ge i hi := by
    rw [len2] at hi
    by_cases h0 : i = H.length
    · rw [h0, swp_0]; exact s.ge _ (by rw [len2]; omega)
    · by_cases h1 : i = H.length + 1
      · rw [h1, swp_1]; exact s.ge _ (by rw [len2]; omega)
      · rw [swp_lt (by omega)]; exact s.ge _ (by rw [len2]; omega)
  le := s.le
  cells i t g cs hi := by
    have hil := (List.getElem?_eq_some_iff.1 hi).1
    rw [len2] at hil
    by_cases e0 : i = H.length
    · subst e0
      rw [get2_0] at hi
      injection hi with hi; injection hi with a1 a2 a3; subst a1 a2 a3
      obtain ⟨arr, fz, q1, q2, q3, q4, q5, q6⟩ := s.cells (H.length + 1) t2 g2 c2 (get2_1 _ _)
      refine ⟨arr, fz, by rw [swp_0]; exact q1, by rw [swp_0]; exact q2, q3, q4, q5, fun k hk => ?_⟩
      obtain ⟨u, u1, u2, u3⟩ := q6 k hk
      exact ⟨u, u1, u2, u3.plain (List.all_eq_true.1 h2 _ (List.getElem_mem hk))⟩
    · by_cases e1 : i = H.length + 1
      · subst e1
        rw [get2_1] at hi
        injection hi with hi; injection hi with a1 a2 a3; subst a1 a2 a3
        obtain ⟨arr, fz, q1, q2, q3, q4, q5, q6⟩ := s.cells H.length t1 g1 c1 (get2_0 _ _)
        refine ⟨arr, fz, by rw [swp_1]; exact q1, by rw [swp_1]; exact q2, q3, q4, q5, fun k hk => ?_⟩
        obtain ⟨u, u1, u2, u3⟩ := q6 k hk
        exact ⟨u, u1, u2, u3.plain (List.all_eq_true.1 h1 _ (List.getElem_mem hk))⟩
      · have hlt : i < H.length := by omega
        rw [List.getElem?_append_left hlt] at hi
        obtain ⟨arr, fz, q1, q2, q3, q4, q5, q6⟩ := s.cells i t g cs (by rw [List.getElem?_append_left hlt]; exact hi)
        obtain ⟨_, _, _, _, _, _, _, p6⟩ := s0.cells i t g cs hi
        refine ⟨arr, fz, by rw [swp_lt hlt]; exact q1, by rw [swp_lt hlt]; exact q2, q3, q4, q5, fun k hk => ?_⟩
        obtain ⟨u, u1, u2, u3⟩ := q6 k hk
        obtain ⟨_, _, _, z3⟩ := p6 k hk
        exact ⟨u, u1, u2, z3.swap u3⟩
  maps i es hi := by
    have hil := (List.getElem?_eq_some_iff.1 hi).1
    rw [len2] at hil
    by_cases e0 : i = H.length
    · subst e0; rw [get2_0] at hi; cases hi
    · by_cases e1 : i = H.length + 1
      · subst e1; rw [get2_1] at hi; cases hi
      · have hlt : i < H.length := by omega
        rw [List.getElem?_append_left hlt] at hi
        obtain ⟨en, clk, q1, q2, q3⟩ := s.maps i es (by rw [List.getElem?_append_left hlt]; exact hi)
        obtain ⟨_, _, _, _, p3⟩ := s0.maps i es hi
        refine ⟨en, clk, by rw [swp_lt hlt]; exact q1, q2, fun k hk => ?_⟩
        obtain ⟨e, e1, e2, e3⟩ := q3 k hk
        obtain ⟨_, _, z2, z3⟩ := p3 k hk
        exact ⟨e, e1, z2.swap e2, z3.swap e3⟩
theorem Ext.swap (E : Ext μ0 H w0 μ (H ++ [o1, o2]) w) : Ext μ0 H w0 (swp H.length μ) (H ++ [o2, o1]) w where
  os := E.os
  tape := E.tape
  output := E.output
  size := E.size
  keep b hb ho := ⟨(E.keep b hb ho).1, fun e => (E.keep b hb ho).2 (own_swp.1 e)⟩
  len := by simp
  obj i hi := by
    have := E.obj i hi
    rw [tot2 hi] at this ⊢
    rwa [swp_lt hi]
end

/-! #### the region -/
theorem mks_any {e : TypeId} {sz bytes : Nat} {zs : List AV} {l c : AV} {fr : AFrame} {H : Heap} {v : AV} {H' : Heap} (h : opS (.mks e sz bytes zs (.c l) (.c c)) fr H = some (v, H')) :
    ∃ n, v = .slc H.length (n * sz) 0 n sz ∧ H' = H ++ [.cells e true (zrep zs n)] ∧ ∀ fr' G, opS (.mks e sz bytes zs (.c l) (.c c)) fr' G = some (.slc G.length (n * sz) 0 n sz, G ++ [.cells e true (zrep zs n)]) := by
  simp only [opS, Arg.ev] at h ⊢
  split at h
  · rename_i k1 l k2 c
    split at h
    · rename_i hc
      injection h with h; injection h with h1 h2; subst h1 h2
      refine ⟨l.toNat, rfl, rfl, fun fr' G => ?_⟩
      rw [if_pos hc]
    · cases h
  · cases h
theorem plain_zrep {zs : List AV} (h : zs.all plainC = true) : ∀ n, (zrep zs n).all plainC = true
  | 0 => rfl
  | n + 1 => by simp [zrep, h, plain_zrep h n]
def readyOk (ops : Array Oper) : Bool :=
  ops.size == 4 && (Region.ready .any ops #[false, false, false, false] == [0, 1] && (Region.ready .any ops #[true, false, false, false] == [1, 2] && (Region.ready .any ops #[false, true, false, false] == [0] &&
    (Region.ready .any ops #[true, true, false, false] == [2] && (Region.ready .any ops #[true, false, true, false] == [1] && (Region.ready .any ops #[true, true, true, false] == [3] && Region.ready .any ops #[true, true, true, true] == []))))))
/-- Two slices are made, each is laid into a place. -/
def twoOk (ops : Array Oper) (l : List AOper) : Bool := match l with
  | [⟨some d1, .op (.mks _ _ _ z1 (.c _) (.c _)), none⟩, ⟨some d2, .op (.mks _ _ _ z2 (.c _) (.c _)), none⟩, ⟨some d3, .op (.mv (.t a)), none⟩, ⟨some d4, .op (.mv (.t b)), none⟩] =>
    a == d1 && (b == d2 && (d1 != d2 && (d3 != d1 && (d3 != d2 && (d4 != d1 && (d4 != d2 && (d3 != d4 && (z1.all plainC && (z2.all plainC && readyOk ops)))))))))
  | _ => false
section
variable {P : Program} {B nt : Nat} {obj : Bool} {ops : Array Oper} {Q : Exit → Act → World → Prop} {K : AFrame → Heap → Prop}
theorem wpOp_step {μ : Nat → Pl} {H H' : Heap} {w : World} {fr : AFrame} {a : Act} {i : Nat} {o : Oper} {p : AOper} {v : AV} {next : Act → World → Prop} (ho : ops[i]? = some o) (hc : cOper P obj nt ops o = some p) (hg : p.g = none) (s : Sim B μ H w) (F : FRn nt μ H w fr a) (h : OpA P p.op fr H v H')
    (hn : ∀ μ' w' a', Sim B μ' H' w' → Ext μ H w μ' H' w' → FRn nt μ' H' w' (updO fr p.dst v) a' → next a' w') : wpOp P ops Q i next a w := by
  obtain ⟨d1, d2, d3⟩ := cOper_dst hc
  have hw : wantA p.g fr = some true := by rw [hg]; rfl
  unfold wpOp
  simp only [ho]
  rw [want_ok hc F hw, if_pos rfl]
  refine .inl (oper_wp s F.fr d3 h fun r μ' w' s' E V => ?_)
  exact hn _ _ _ s' E (by rw [← d1]; exact (F.mono E).putO (by rw [d1]; exact d2) V)
theorem upd_comm (fr : AFrame) {a b : Nat} (x y : AV) (h : a ≠ b) : upd (upd fr a x) b y = upd (upd fr b y) a x := by
  funext t
  simp only [upd]
  by_cases h1 : t = a
  · subst h1; rw [if_neg h, if_pos rfl, if_pos rfl]
  · by_cases h2 : t = b
    · subst h2; rw [if_pos rfl, if_neg h1, if_pos rfl]
    · rw [if_neg h2, if_neg h1, if_neg h1, if_neg h2]
theorem two_sound {l : List AOper} (hl : ops.toList.mapM (cOper P obj nt ops) = some l) (hk : twoOk ops l = true) {μ : Nat → Pl} {H : Heap} {w : World} {fr : AFrame} {a : Act} (s : Sim B μ H w) (F : FRn nt μ H w fr a) (h : wpOpsA P l K fr H)
    (hQ : ∀ μ' H' w' fr' a', K fr' H' → Sim B μ' H' w' → Ext μ H w μ' H' w' → FRn nt μ' H' w' fr' a' → Q .normal a' w') :
    wpAny P .any ops Q ops.size (Array.replicate ops.size false) a w := by
  obtain ⟨k1, k2⟩ := mapM_get hl
  unfold twoOk at hk
  split at hk
  rotate_left
  · cases hk
  rename_i d1 e1 sz1 b1 z1 l1 c1 d2 e2 sz2 b2 z2 l2 c2 d3 a' d4 b'
  simp only [Bool.and_eq_true, beq_iff_eq, bne_iff_ne, ne_eq] at hk
  obtain ⟨rfl, rfl, h12, h31, h32, h41, h42, h34, hz1, hz2, hr⟩ := hk
  simp only [readyOk, Bool.and_eq_true, beq_iff_eq] at hr
  obtain ⟨hsz, r0, r1, r2, r3, r4, r5, r6⟩ := hr
  have get : ∀ i (hi : i < 4), ∃ o, ops[i]? = some o ∧ ∃ p, [AOper.mk (some a') (.op (.mks e1 sz1 b1 z1 (.c l1) (.c c1))) none, ⟨some b', .op (.mks e2 sz2 b2 z2 (.c l2) (.c c2)), none⟩, ⟨some d3, .op (.mv (.t a')), none⟩, ⟨some d4, .op (.mv (.t b')), none⟩][i]? = some p ∧ cOper P obj nt ops o = some p := by
    intro i hi
    have hio : i < ops.size := by omega
    refine ⟨ops[i], Array.getElem?_eq_getElem hio, ?_⟩
    obtain ⟨y, y1, y2⟩ := k2 i ops[i] (by simp [hio])
    exact ⟨y, y1, y2⟩
  obtain ⟨x0, g0, p0, q0, c0⟩ := get 0 (by omega)
  obtain ⟨x1, g1, p1, q1, c1'⟩ := get 1 (by omega)
  obtain ⟨x2, g2, p2, q2, c2'⟩ := get 2 (by omega)
  obtain ⟨x3, g3, p3, q3, c3'⟩ := get 3 (by omega)
  simp only [List.getElem?_cons_zero, List.getElem?_cons_succ, Option.some.injEq] at q0 q1 q2 q3
  subst q0 q1 q2 q3
  simp only [wpOpsA, wantA, OpA, updO] at h
  obtain ⟨v1, H1, m1, v2, H2, m2, v3, H3, m3, v4, H4, m4, hK⟩ := h
  obtain ⟨n1, rfl, rfl, a1⟩ := mks_any m1
  obtain ⟨n2, rfl, rfl, a2⟩ := mks_any m2
  simp only [opS, Arg.ev, Option.some.injEq, Prod.mk.injEq] at m3 m4
  obtain ⟨rfl, rfl⟩ := m3
  obtain ⟨rfl, rfl⟩ := m4
  have hrep : Array.replicate ops.size false = #[false, false, false, false] := by rw [hsz]; rfl
  rw [hsz, show Array.replicate 4 false = #[false, false, false, false] from rfl]
  -- the two last moves
  have last : ∀ (μ' : Nat → Pl) (w' : World) (a2' : Act) (fr' : AFrame) (E : Ext μ H w μ' (H ++ [AObj.cells e1 true (zrep z1 n1)] ++ [AObj.cells e2 true (zrep z2 n2)]) w'),
      Sim B μ' (H ++ [AObj.cells e1 true (zrep z1 n1)] ++ [AObj.cells e2 true (zrep z2 n2)]) w' →
      FRn nt μ' (H ++ [AObj.cells e1 true (zrep z1 n1)] ++ [AObj.cells e2 true (zrep z2 n2)]) w' fr' a2' → fr' = upd (upd (upd fr a' (.slc H.length (n1 * sz1) 0 n1 sz1)) b' (.slc (H ++ [AObj.cells e1 true (zrep z1 n1)]).length (n2 * sz2) 0 n2 sz2)) d3 (.slc H.length (n1 * sz1) 0 n1 sz1) →
      wpAny P .any ops Q 1 #[true, true, true, false] a2' w' := by
    intro μ' w' a2' fr' E s' F' hfr
    refine ⟨fun e => (by rw [r5] at e; cases e), fun i hi => ?_⟩
    rw [r5] at hi
    simp only [List.mem_singleton] at hi; subst hi
    refine wpOp_step g3 c3' rfl s' F' (v := fr' b') (H' := H ++ [AObj.cells e1 true (zrep z1 n1)] ++ [AObj.cells e2 true (zrep z2 n2)]) rfl fun μ2 w2 a3 s2 E2 F2 => ?_
    refine ⟨r6, ?_⟩
    refine hQ μ2 _ w2 _ a3 ?_ s2 (E.trans E2) F2
    have e1 : updO fr' (some d4) (fr' b') = upd (upd (upd (upd fr a' (.slc H.length (n1 * sz1) 0 n1 sz1)) b' (.slc (H ++ [AObj.cells e1 true (zrep z1 n1)]).length (n2 * sz2) 0 n2 sz2)) d3 (upd (upd fr a' (.slc H.length (n1 * sz1) 0 n1 sz1)) b' (.slc (H ++ [AObj.cells e1 true (zrep z1 n1)]).length (n2 * sz2) 0 n2 sz2) a')) d4 (upd (upd (upd fr a' (.slc H.length (n1 * sz1) 0 n1 sz1)) b' (.slc (H ++ [AObj.cells e1 true (zrep z1 n1)]).length (n2 * sz2) 0 n2 sz2)) d3 (upd (upd fr a' (.slc H.length (n1 * sz1) 0 n1 sz1)) b' (.slc (H ++ [AObj.cells e1 true (zrep z1 n1)]).length (n2 * sz2) 0 n2 sz2) a') b') := by
      rw [hfr]
      simp only [updO]
      have hx : upd (upd fr a' (.slc H.length (n1 * sz1) 0 n1 sz1)) b' (.slc (H ++ [AObj.cells e1 true (zrep z1 n1)]).length (n2 * sz2) 0 n2 sz2) a' = .slc H.length (n1 * sz1) 0 n1 sz1 := by
        simp [upd, h12]
      rw [hx]
    rw [e1]; exact hK
  have third : ∀ (μ' : Nat → Pl) (w' : World) (a2' : Act) (E : Ext μ H w μ' (H ++ [AObj.cells e1 true (zrep z1 n1)] ++ [AObj.cells e2 true (zrep z2 n2)]) w'),
      Sim B μ' (H ++ [AObj.cells e1 true (zrep z1 n1)] ++ [AObj.cells e2 true (zrep z2 n2)]) w' →
      FRn nt μ' (H ++ [AObj.cells e1 true (zrep z1 n1)] ++ [AObj.cells e2 true (zrep z2 n2)]) w' (upd (upd fr a' (.slc H.length (n1 * sz1) 0 n1 sz1)) b' (.slc (H ++ [AObj.cells e1 true (zrep z1 n1)]).length (n2 * sz2) 0 n2 sz2)) a2' →
      wpAny P .any ops Q 2 #[true, true, false, false] a2' w' := by
    intro μ' w' a2' E s' F'
    refine ⟨fun e => (by rw [r3] at e; cases e), fun i hi => ?_⟩
    rw [r3] at hi
    simp only [List.mem_singleton] at hi; subst hi
    refine wpOp_step g2 c2' rfl s' F' (v := .slc H.length (n1 * sz1) 0 n1 sz1) (H' := H ++ [AObj.cells e1 true (zrep z1 n1)] ++ [AObj.cells e2 true (zrep z2 n2)]) ?_ fun μ2 w2 a3 s2 E2 F2 => ?_
    · simp [OpA, opS, Arg.ev, upd, h12]
    · exact last μ2 w2 a3 _ (E.trans E2) s2 F2 rfl
  refine ⟨fun e => (by rw [r0] at e; cases e), fun i hi => ?_⟩
  rw [r0] at hi
  simp only [List.mem_cons, List.mem_nil_iff, or_false] at hi
  rcases hi with rfl | rfl
  · -- the first is made first
    refine wpOp_step g0 c0 rfl s F (a1 _ _) fun μ1 w1 a1' s1 E1 F1 => ?_
    refine ⟨fun e => (by rw [show (#[false, false, false, false] : Array Bool).setIfInBounds 0 true = #[true, false, false, false] from rfl, r1] at e; cases e), fun i hi => ?_⟩
    rw [show (#[false, false, false, false] : Array Bool).setIfInBounds 0 true = #[true, false, false, false] from rfl] at hi ⊢
    rw [r1] at hi
    simp only [List.mem_cons, List.mem_nil_iff, or_false] at hi
    rcases hi with rfl | rfl
    · refine wpOp_step g1 c1' rfl s1 F1 (a2 _ _) fun μ2 w2 a2' s2 E2 F2 => ?_
      exact third μ2 w2 a2' (E1.trans E2) s2 F2
    · refine wpOp_step g2 c2' rfl s1 F1 (v := .slc H.length (n1 * sz1) 0 n1 sz1) (H' := H ++ [AObj.cells e1 true (zrep z1 n1)]) ?_ fun μ2 w2 a2' s2 E2 F2 => ?_
      · simp [OpA, opS, Arg.ev, updO, upd]
      rw [show (#[true, false, false, false] : Array Bool).setIfInBounds 2 true = #[true, false, true, false] from rfl]
      refine ⟨fun e => (by rw [r4] at e; cases e), fun i hi => ?_⟩
      rw [r4] at hi
      simp only [List.mem_singleton] at hi; subst hi
      refine wpOp_step g1 c1' rfl s2 F2 (a2 _ _) fun μ3 w3 a3' s3 E3 F3 => ?_
      exact last μ3 w3 a3' _ ((E1.trans E2).trans E3) s3 F3 (upd_comm _ _ _ h32)
  · -- the second is made first
    refine wpOp_step g1 c1' rfl s F (a2 _ _) fun μ1 w1 a1' s1 E1 F1 => ?_
    rw [show (#[false, false, false, false] : Array Bool).setIfInBounds 1 true = #[false, true, false, false] from rfl]
    refine ⟨fun e => (by rw [r2] at e; cases e), fun i hi => ?_⟩
    rw [r2] at hi
    simp only [List.mem_singleton] at hi; subst hi
    refine wpOp_step g0 c0 rfl s1 F1 (a1 _ _) fun μ2 w2 a2' s2 E2 F2 => ?_
    rw [show (#[false, true, false, false] : Array Bool).setIfInBounds 0 true = #[true, true, false, false] from rfl]
    rw [show H ++ [AObj.cells e2 true (zrep z2 n2)] ++ [.cells e1 true (zrep z1 n1)] = H ++ [.cells e2 true (zrep z2 n2), .cells e1 true (zrep z1 n1)] by simp] at s2 F2
    have E12 := E1.trans E2
    rw [show H ++ [AObj.cells e2 true (zrep z2 n2)] ++ [.cells e1 true (zrep z1 n1)] = H ++ [.cells e2 true (zrep z2 n2), .cells e1 true (zrep z1 n1)] by simp] at E12
    have s3 := s.swap (plain_zrep hz2 n2) (plain_zrep hz1 n1) s2
    have E3 := E12.swap
    have hh : H ++ [AObj.cells e1 true (zrep z1 n1)] ++ [.cells e2 true (zrep z2 n2)] = H ++ [.cells e1 true (zrep z1 n1), .cells e2 true (zrep z2 n2)] := by simp
    refine third (swp H.length μ2) w2 a2' (by rw [hh]; exact E3) (by rw [hh]; exact s3) ?_
    rw [hh]
    refine ⟨⟨fun t => ?_⟩, F2.nt, F2.df⟩
    have hv := F2.fr.val t
    simp only [updO, upd] at hv ⊢
    have l1 : (H ++ [AObj.cells e1 true (zrep z1 n1)]).length = H.length + 1 := by simp
    have l2 : (H ++ [AObj.cells e2 true (zrep z2 n2)]).length = H.length + 1 := by simp
    rw [l1]; rw [l2] at hv
    by_cases t2 : t = b'
    · rw [if_pos t2]
      rw [if_neg (by rw [t2]; exact fun e => h12 e.symm), if_pos t2] at hv
      generalize a2'.tmps.getD t undef = x at hv
      cases hv with
      | slc _ _ _ _ _ ad c hid hle hlc ha =>
        have f1 : totAt (H ++ [AObj.cells e2 true (zrep z2 n2), .cells e1 true (zrep z1 n1)]) H.length = (zrep z2 n2).length := totAt_of (get2_0 _ _)
        have f2 : totAt (H ++ [AObj.cells e1 true (zrep z1 n1), .cells e2 true (zrep z2 n2)]) (H.length + 1) = (zrep z2 n2).length := totAt_of (get2_1 _ _)
        rw [f1] at hle ha
        exact .slc _ _ _ _ _ _ _ (by rw [len2]; omega) (by rw [f2]; exact hle) hlc (by rw [f2, swp_1]; exact ha)
    · rw [if_neg t2]
      by_cases t1 : t = a'
      · rw [if_pos t1]
        rw [if_pos t1] at hv
        generalize a2'.tmps.getD t undef = x at hv
        cases hv with
        | slc _ _ _ _ _ ad c hid hle hlc ha =>
          have f1 : totAt (H ++ [AObj.cells e2 true (zrep z2 n2), .cells e1 true (zrep z1 n1)]) (H.length + 1) = (zrep z1 n1).length := totAt_of (get2_1 _ _)
          have f2 : totAt (H ++ [AObj.cells e1 true (zrep z1 n1), .cells e2 true (zrep z2 n2)]) H.length = (zrep z1 n1).length := totAt_of (get2_0 _ _)
          rw [f1] at hle ha
          exact .slc _ _ _ _ _ _ _ (by rw [len2]; omega) (by rw [f2]; exact hle) hlc (by rw [f2, swp_0]; exact ha)
      · rw [if_neg t1]
        rw [if_neg t1, if_neg t2] at hv
        exact (F.fr.val t).swap hv
end
end Go.Proofs.Ah

