/- What a function gives back: objects that stay, or lists that nobody writes any more; a function's contract from the walk through its code. -/
import Derived.Test.YtncghckcdhfhjaaGreatDoorAh10
set_option linter.unusedVariables false
set_option linter.unusedSimpArgs false
namespace Go.Proofs.Ah
open Go

/-- No object in it. -/
def AV.scal : AV → Bool
  | .int .. | .bool _ | .str _ | .nilp | .nils | .nilf | .nilm | .undef | .fn _ [] => true
  | _ => false
/-- No object from n on in it. -/
def AV.flat (n : Nat) : AV → Bool
  | .ptr id _ _ | .slc id _ _ _ _ | .map id => decide (id < n)
  | .lst _ _ _ cs | .pim cs _ | .agg cs => cs.all AV.scal
  | v => v.scal
def AObj.flat (n : Nat) : AObj → Bool
  | .cells _ _ cs => cs.all (AV.flat n)
  | .map es => es.all fun e => e.1.flat n && e.2.flat n

/-- A value without the objects from n on. -/
def freezeA (H : Heap) (n : Nat) : Nat → AV → Option AV
  | 0, _ => none
  | k + 1, v => match v with
    | .ptr id tot idx => if id < n then some (.ptr id tot idx) else none
    | .map id => if id < n then some (.map id) else none
    | .slc id tot off len sz => if id < n then some (.slc id tot off len sz) else match H[id]? with
      | some (.cells _ g cs) => if cs.length = tot ∧ off + len * sz ≤ cs.length then match ((cs.drop off).take (len * sz)).mapM (freezeA H n k) with
        | some cs' => some (.lst len sz (!g && sz != 0 && off + len * sz == cs.length) cs')
        | none => none else none
      | _ => none
    | .lst l sz full cs => match cs.mapM (freezeA H n k) with
      | some cs' => some (.lst l sz full cs')
      | none => none
    | .pim cs j => match cs.mapM (freezeA H n k) with
      | some cs' => some (.pim cs' j)
      | none => none
    | .agg cs => match cs.mapM (freezeA H n k) with
      | some cs' => some (.agg cs')
      | none => none
    | .tup cs => match cs.mapM (freezeA H n k) with
      | some cs' => some (.tup cs')
      | none => none
    | .fn f cap => match cap.mapM (freezeA H n k) with
      | some cap' => some (.fn f cap')
      | none => none
    | v => some v

section
variable {B : Nat} {μ : Nat → Pl} {H G : Heap} {w : World}

theorem own_app {b : Nat} (h : ¬ own μ (H ++ G) b) : ¬ own μ H b := fun ⟨i, hi, e⟩ => h ⟨i, by simp; omega, e⟩
theorem totAt_app {i : Nat} (h : i < H.length) : totAt (H ++ G) i = totAt H i := totAt_append H G i h

theorem VR.scal {v : AV} {x : Value} (hv : v.scal = true) {H'} (h : VR μ H w v x) : VR μ H' w v x := by
  cases h
  case fn f cap cv hs hv' =>
    cases cap with
    | nil => exact VR.fn _ [] cv hs (fun i h => by simp at h)
    | cons => simp [AV.scal] at hv
  all_goals first
    | (simp only [AV.scal, Bool.false_eq_true] at hv; done)
    | constructor

/-- Objects from n on forgotten. -/
theorem VR.flat {v : AV} {x : Value} (hv : v.flat H.length = true) (h : VR μ (H ++ G) w v x) : VR μ H w v x := by
  cases h with
  | ptr id tot idx a hid hle ha =>
    simp only [AV.flat, decide_eq_true_eq] at hv
    rw [totAt_app hv] at hle ha
    exact .ptr _ _ _ _ hv hle ha
  | map id r hid hr =>
    simp only [AV.flat, decide_eq_true_eq] at hv
    rw [totAt_app hv] at hr
    exact .map _ _ hv hr
  | slc id tot off len sz a c hid hle hlc ha =>
    simp only [AV.flat, decide_eq_true_eq] at hv
    rw [totAt_app hv] at hle ha
    exact .slc _ _ _ _ _ _ _ hv hle hlc ha
  | lst0 sz full a c hf => exact .lst0 _ _ _ _ hf
  | lst n sz full cs b o c u hn hl hlc hf hc h1 hv' hown hb =>
    simp only [AV.flat, List.all_eq_true] at hv
    exact .lst _ _ _ _ _ _ _ u hn hl hlc hf hc h1 (fun i h => (hv' i h).scal (hv _ (List.getElem_mem h))) (own_app hown) hb
  | pim cs k b o u hc h1 hv' hown hb =>
    simp only [AV.flat, List.all_eq_true] at hv
    exact .pim _ _ _ _ u hc h1 (fun i h => (hv' i h).scal (hv _ (List.getElem_mem h))) (own_app hown) hb
  | agg cs cv hs hv' =>
    simp only [AV.flat, List.all_eq_true] at hv
    exact .agg _ _ hs fun i h h' => (hv' i h h').scal (hv _ (List.getElem_mem h))
  | fn f cap cv hs hv' =>
    simp only [AV.flat] at hv
    exact VR.scal hv (.fn f cap cv hs hv')
  | tup cs cv hs hv' => simp [AV.flat, AV.scal] at hv
  | int => exact .int _ _
  | bool => exact .bool _
  | str => exact .str _
  | nilp => exact .nilp
  | nils => exact .nils
  | nilf => exact .nilf
  | nilm => exact .nilm
  | undef => exact .undef _

/-- What held no such object still holds none. -/
theorem VR.back {μ0 : Nat → Pl} {H0 : Heap} {w0 : World} {v : AV} {x0 : Value} (h0 : VR μ0 H0 w0 v x0) (hlen : H0.length ≤ H.length) : ∀ {x : Value}, VR μ (H ++ G) w v x → VR μ H w v x := by
  induction h0 with
  | int => intro x h; cases h; exact .int _ _
  | bool => intro x h; cases h; exact .bool _
  | str => intro x h; cases h; exact .str _
  | nilp => intro x h; cases h; exact .nilp
  | nils => intro x h; cases h; exact .nils
  | nilf => intro x h; cases h; exact .nilf
  | nilm => intro x h; cases h; exact .nilm
  | undef => intro x h; exact .undef _
  | ptr id tot idx a hid hle ha =>
    intro x h
    cases h with
    | ptr _ _ _ a hid' hle ha =>
      have hv : id < H.length := by omega
      rw [totAt_app hv] at hle ha
      exact .ptr _ _ _ _ hv hle ha
  | map id r hid hr =>
    intro x h
    cases h with
    | map _ r hid' hr =>
      have hv : id < H.length := by omega
      rw [totAt_app hv] at hr
      exact .map _ _ hv hr
  | slc id tot off len sz a c hid hle hlc ha =>
    intro x h
    cases h with
    | slc _ _ _ _ _ a c hid' hle hlc ha =>
      have hv : id < H.length := by omega
      rw [totAt_app hv] at hle ha
      exact .slc _ _ _ _ _ _ _ hv hle hlc ha
  | lst0 => intro x h; cases h with
    | lst0 sz full a c hf => exact .lst0 _ _ _ _ hf
    | lst _ _ _ _ _ _ _ _ hn => omega
  | lst n sz full cs b o c u hn hl hlc hf hc h1 hv' hown hb ih =>
    intro x h
    cases h with
    | lst0 => omega
    | lst _ _ _ _ b o c u hn hl hlc hf hc h1 hv' hown hb =>
      exact .lst _ _ _ _ _ _ _ u hn hl hlc hf hc h1 (fun i h => ih i h (hv' i h)) (own_app hown) hb
  | pim cs k b o u hc h1 hv' hown hb ih =>
    intro x h
    cases h with
    | pim _ _ b o u hc h1 hv' hown hb =>
      exact .pim _ _ _ _ u hc h1 (fun i h => ih i h (hv' i h)) (own_app hown) hb
  | fn f cap cv hs hv ih =>
    intro x h
    cases h with
    | fn _ _ cv' hs' hv' => exact .fn _ _ _ hs' fun i h h' => ih i h (by omega) (hv' i h h')
  | agg cs cv hs hv ih =>
    intro x h
    cases h with
    | agg _ cv' hs' hv' => exact .agg _ _ hs' fun i h h' => ih i h (by omega) (hv' i h h')
  | tup cs cv hs hv ih =>
    intro x h
    cases h with
    | tup _ cv' hs' hv' => exact .tup _ _ hs' fun i h h' => ih i h (by omega) (hv' i h h')

theorem getD_in' {cv : Array Value} {i : Nat} {d : Value} (h : i < cv.size) : cv.getD i d = cv[i] := by simp [Array.getD, h]

theorem freeze_ok (s : Sim B μ (H ++ G) w) : ∀ (k : Nat) {v r : AV} {x : Value}, freezeA (H ++ G) H.length k v = some r → VR μ (H ++ G) w v x → VR μ H w r x
  | 0, v, r, x, hf, h => by simp [freezeA] at hf
  | k + 1, v, r, x, hf, h => by
    have many : ∀ {cs cs' : List AV} {u : Nat → Value}, cs.mapM (freezeA (H ++ G) H.length k) = some cs' → (∀ i (h : i < cs.length), VR μ (H ++ G) w cs[i] (u i)) → cs'.length = cs.length ∧ ∀ i (h : i < cs'.length), VR μ H w cs'[i] (u i) := by
      intro cs cs' u hm hv
      obtain ⟨k1, k2⟩ := mapM_get hm
      refine ⟨k1, fun i hi => ?_⟩
      obtain ⟨y, hy, hfy⟩ := k2 i cs[i] (List.getElem?_eq_getElem (by omega))
      rw [List.getElem?_eq_getElem hi] at hy; injection hy with hy
      rw [hy]
      exact freeze_ok s k hfy (hv i (by omega))
    cases h with
    | ptr id tot idx a hid hle ha =>
      simp only [freezeA] at hf
      split at hf
      · rename_i hlt; injection hf with hf; subst hf
        exact VR.flat (G := G) (by simpa [AV.flat] using hlt) (.ptr id tot idx a hid hle ha)
      · cases hf
    | map id r hid hr =>
      simp only [freezeA] at hf
      split at hf
      · rename_i hlt; injection hf with hf; subst hf
        exact VR.flat (G := G) (by simpa [AV.flat] using hlt) (.map id r hid hr)
      · cases hf
    | slc id tot off len sz a c hid hle hlc ha =>
      simp only [freezeA] at hf
      split at hf
      · rename_i hlt; injection hf with hf; subst hf
        exact VR.flat (G := G) (by simpa [AV.flat] using hlt) (.slc id tot off len sz a c hid hle hlc ha)
      · rename_i hge
        split at hf
        · rename_i t g cs hcs
          split at hf
          · rename_i hb
            split at hf
            · rename_i cs' hm
              injection hf with hf; subst hf
              obtain ⟨arr, fz, q1, q2, q3, q4, q5, q6⟩ := s.cells id t g cs hcs
              have ht : totAt (H ++ G) id = tot := by unfold totAt; rw [hcs]; exact hb.1
              have hbl : (μ id).b < w.heap.size := s.own_lt ⟨id, hid, rfl⟩
              have hno : ¬ own μ H (μ id).b := fun ⟨i, hi, e⟩ => by
                have := s.inj i id (by simp; omega) hid e
                omega
              have hsl : ((cs.drop off).take (len * sz)).length = len * sz := by simp; omega
              obtain ⟨m1, m2⟩ := mapM_get hm
              rw [hsl] at m1
              by_cases hlen : len = 0
              · subst hlen
                have : cs' = [] := by
                  simp at m1; exact m1
                subst this
                refine .lst0 _ _ _ _ fun hfull => ?_
                simp only [Bool.and_eq_true, Bool.not_eq_true', bne_iff_ne, ne_eq, beq_iff_eq, Nat.zero_mul, Nat.add_zero] at hfull
                by_cases hc0 : c = 0
                · exact hc0
                · obtain ⟨_, e2⟩ := ha ht hc0
                  have := q5 hfull.1.1
                  have hpos : 1 ≤ sz := Nat.one_le_iff_ne_zero.2 hfull.1.2
                  have : c * 1 ≤ c * sz := Nat.mul_le_mul_left _ hpos
                  omega
              · have hc0 : c ≠ 0 := by omega
                obtain ⟨rfl, e2⟩ := ha ht hc0
                have hr : readO (H ++ G) id tot = some cs := by unfold readO; simp only [hcs, hb.1, if_true]
                obtain ⟨r1, r2, r3, r4, _, us, hus, hcell⟩ := s.read hr
                have cellv : ∀ i, i < len * sz → us[off + i]? = some (us.getD (off + i) undef) ∧ (us.getD (off + i) undef).oneCell' = true ∧ VR μ (H ++ G) w (cs.getD (off + i) .undef) (us.getD (off + i) undef) := by
                  intro i hi
                  obtain ⟨u, u1, u2, u3⟩ := hus.2 (off + i) (by omega)
                  have e1 : us.getD (off + i) undef = u := by simp [List.getD, u1]
                  have e2 : cs.getD (off + i) .undef = cs[off + i]'(by omega) := by
                    rw [List.getD_eq_getElem?_getD, List.getElem?_eq_getElem (by omega)]; rfl
                  rw [e1, e2]; exact ⟨u1, u2, u3⟩
                refine .lst len sz _ cs' (μ id).b off c (fun i => us.getD (off + i) undef) (by omega) m1 hlc ?_ (fun i hi => hcell _ _ (cellv i (by omega)).1) (fun i hi => (cellv i (by omega)).2.1) (fun i hi => ?_) hno hbl
                · intro hfull
                  simp only [Bool.and_eq_true, Bool.not_eq_true', bne_iff_ne, ne_eq, beq_iff_eq] at hfull
                  have := q5 hfull.1.1
                  have hpos : 0 < sz := Nat.pos_of_ne_zero hfull.1.2
                  have h3 : c * sz ≤ len * sz := by omega
                  have := Nat.le_of_mul_le_mul_right h3 hpos
                  omega
                · obtain ⟨y, hy, hfy⟩ := m2 i (cs.getD (off + i) .undef) (by
                    rw [List.getElem?_take_of_lt (by omega), List.getElem?_drop, List.getElem?_eq_getElem (by omega), List.getD_eq_getElem?_getD, List.getElem?_eq_getElem (by omega)]; rfl)
                  rw [List.getElem?_eq_getElem hi] at hy; injection hy with hy
                  rw [hy]
                  exact freeze_ok s k hfy (cellv i (by omega)).2.2
            · cases hf
          · cases hf
        · cases hf
    | lst0 sz full a c hfl =>
      simp only [freezeA, List.mapM_nil] at hf
      injection hf with hf; subst hf; exact .lst0 _ _ _ _ hfl
    | lst n sz full cs b o c u hn hl hlc hfl hc h1 hv' hown hb =>
      simp only [freezeA] at hf
      split at hf
      · rename_i cs' hm
        injection hf with hf; subst hf
        obtain ⟨m1, m2⟩ := many hm hv'
        exact .lst _ _ _ _ _ _ _ u hn (by omega) hlc hfl (fun i hi => hc i (by omega)) (fun i hi => h1 i (by omega)) m2 (own_app hown) hb
      · cases hf
    | pim cs j b o u hc h1 hv' hown hb =>
      simp only [freezeA] at hf
      split at hf
      · rename_i cs' hm
        injection hf with hf; subst hf
        obtain ⟨m1, m2⟩ := many hm hv'
        exact .pim _ _ _ _ u (fun i hi => hc i (by omega)) (fun i hi => h1 i (by omega)) m2 (own_app hown) hb
      · cases hf
    | agg cs cv hs hv' =>
      simp only [freezeA] at hf
      split at hf
      · rename_i cs' hm
        injection hf with hf; subst hf
        obtain ⟨m1, m2⟩ := many (u := fun i => cv.getD i undef) hm fun i h => by
          have : cv.getD i undef = cv[i]'(by omega) := getD_in' (by omega)
          rw [this]; exact hv' i h (by omega)
        exact .agg _ _ (by omega) fun i h h' => by
          have := m2 i h
          have e : cv.getD i undef = cv[i] := getD_in' (by omega)
          rw [e] at this; exact this
      · cases hf
    | tup cs cv hs hv' =>
      simp only [freezeA] at hf
      split at hf
      · rename_i cs' hm
        injection hf with hf; subst hf
        obtain ⟨m1, m2⟩ := many (u := fun i => cv.getD i undef) hm fun i h => by
          have : cv.getD i undef = cv[i]'(by omega) := getD_in' (by omega)
          rw [this]; exact hv' i h (by omega)
        exact .tup _ _ (by omega) fun i h h' => by
          have := m2 i h
          have e : cv.getD i undef = cv[i] := getD_in' (by omega)
          rw [e] at this; exact this
      · cases hf
    | fn f cs cv hs hv' =>
      simp only [freezeA] at hf
      split at hf
      · rename_i cs' hm
        injection hf with hf; subst hf
        obtain ⟨m1, m2⟩ := many (u := fun i => cv.getD i undef) hm fun i h => by
          have : cv.getD i undef = cv[i]'(by omega) := getD_in' (by omega)
          rw [this]; exact hv' i h (by omega)
        exact .fn _ _ _ (by omega) fun i h h' => by
          have := m2 i h
          have e : cv.getD i undef = cv[i] := getD_in' (by omega)
          rw [e] at this; exact this
      · cases hf
    | int => simp only [freezeA] at hf; injection hf with hf; subst hf; exact .int _ _
    | bool => simp only [freezeA] at hf; injection hf with hf; subst hf; exact .bool _
    | str => simp only [freezeA] at hf; injection hf with hf; subst hf; exact .str _
    | nilp => simp only [freezeA] at hf; injection hf with hf; subst hf; exact .nilp
    | nils => simp only [freezeA] at hf; injection hf with hf; subst hf; exact .nils
    | nilf => simp only [freezeA] at hf; injection hf with hf; subst hf; exact .nilf
    | nilm => simp only [freezeA] at hf; injection hf with hf; subst hf; exact .nilm
    | undef => simp only [freezeA] at hf; injection hf with hf; subst hf; exact .undef _
end
end Go.Proofs.Ah

