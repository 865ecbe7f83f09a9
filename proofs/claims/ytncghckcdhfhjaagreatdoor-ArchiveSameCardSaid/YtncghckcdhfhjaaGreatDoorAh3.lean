/- More operations' steps: copy, make, what is built, min and max, len. -/
import Derived.Test.YtncghckcdhfhjaaGreatDoorAh2
import Derived.Laws.StructEq
import Derived.MapKept
import Derived.WideKeyRuns
set_option linter.unusedVariables false
set_option linter.unusedSimpArgs false
namespace Go.Proofs.Ah
open Go

/-- Parts laid into cells: where, how many, what. -/
def fillA (cells : List AV) : List (Nat × Nat × AV) → Option (List AV)
  | [] => some cells
  | (off, n, v) :: r => if v.cells.length = n ∧ off + n ≤ cells.length ∧ v.cells.all AV.one = true then fillA (splice cells off v.cells) r else none
def mmA (isMax : Bool) : AV → AV → Option AV
  | .int k x, .int k' y => if isMax then some (.int k (if y > x then y else x)) else some (.int k (if y < x then y else x))
  | _, _ => none
def mmsA (isMax : Bool) : AV → List AV → Option AV
  | x, [] => some x
  | x, y :: r => match mmA isMax x y with
    | some z => mmsA isMax z r
    | none => none

section
variable {P : Program} {B : Nat} {μ : Nat → Pl} {H : Heap} {w : World}

/-- The first k elements alone. -/
theorem elemsA_pre (s : Sim B μ H w) {x : AV} {xv : Value} (hx : VR μ H w x xv) {sz n : Nat} {vs : List AV} (h : elemsA H x sz = some (n, vs)) :
    vs.length = n * sz ∧ (∀ P (W : World), (Builtin.lenOf xv).run P W = .ok n W) ∧
      ∃ us : List Value, VRs μ H w vs us ∧ (∀ P (k : Nat), k ≤ n → (Builtin.firstCells sz k xv).run P w = .ok (us.take (k * sz)).toArray w) := by
  obtain ⟨h1, h2, us, h3, h4⟩ := elemsA_ok s hx h
  refine ⟨h1, h2, us, h3, fun P k hk => ?_⟩
  have hks : k * sz ≤ n * sz := Nat.mul_le_mul_right _ hk
  have hlen : us.length = n * sz := h3.1.trans h1
  cases hx with
  | nils =>
    simp only [elemsA] at h; injection h with h; injection h with e1 e2; subst e1 e2
    have : us = [] := List.eq_nil_of_length_eq_zero (by simpa using hlen)
    subst this
    simp [Builtin.firstCells]
  | str t =>
    simp only [elemsA] at h
    split at h
    · rename_i hsz
      injection h with h; injection h with e1 e2; subst e1 e2 hsz
      have hf := h4 P w (fun _ _ _ => rfl)
      simp only [Builtin.firstCells, Sem.run_pure] at hf
      injection hf with hf
      have e0 : t.extract 0 t.size = t := by simp
      rw [e0] at hf
      simp only [Builtin.firstCells, Sem.run_pure]
      congr 1
      have hus : us = (t.data.map fun b => Value.int .u8 b.toNat).toList := by rw [hf]
      rw [hus]
      apply Array.ext'
      simp [ByteArray.data_extract, List.map_take]
    · cases h
  | slc id tot off len sz' a c hid hle hlc ha =>
    simp only [elemsA] at h
    split at h
    · rename_i hsz
      subst hsz
      split at h
      · rename_i cs hr
        split at h
        · injection h with h; injection h with e1 e2; subst e1 e2
          have hf := h4 P w (fun _ _ _ => rfl)
          by_cases hk0 : k = 0
          · subst hk0
            cases a <;> simp [Builtin.firstCells, loadCells, loadCellsFrom]
          · obtain ⟨r1, r2, _, _, _, us', hus', hcell⟩ := s.read hr
            obtain ⟨rfl, _⟩ := ha r2 (by omega)
            have hus2 : us = (us'.drop off).take (len * sz') := by
              have h5 := run_firstCells_some (P := P) w sz' len ⟨(μ id).b, off, none⟩ len c ((us'.drop off).take (len * sz')) (by
                have := hus'.1; simp; omega) (fun j v hj => by
                rw [Addr.add_lit]
                rw [List.getElem?_take] at hj
                split at hj
                · rw [List.getElem?_drop] at hj; exact hcell _ _ hj
                · cases hj)
              rw [hf] at h5
              injection h5 with h5
              exact List.toArray_inj h5
            refine run_firstCells_some (P := P) w sz' k _ len c _ (by rw [List.length_take, hlen]; exact Nat.min_eq_left hks) fun j v hj => ?_
            rw [Addr.add_lit]
            rw [hus2] at hj
            rw [List.getElem?_take] at hj
            split at hj
            · rw [List.getElem?_take] at hj
              split at hj
              · rw [List.getElem?_drop] at hj; exact hcell _ _ hj
              · cases hj
            · cases hj
        · cases h
      · cases h
    · cases h
  | lst0 sz' full a c hf =>
    simp only [elemsA] at h
    split at h
    · injection h with h; injection h with e1 e2; subst e1 e2
      have hk0 : k = 0 := by omega
      subst hk0
      cases a <;> simp [Builtin.firstCells, loadCells, loadCellsFrom]
    · cases h
  | lst n' sz' full cs b o c u hn hl hlc hf hc h1' hv hown hb =>
    simp only [elemsA] at h
    split at h
    · rename_i hsz
      subst hsz
      injection h with h; injection h with e1 e2; subst e1 e2
      have hf' := h4 P w (fun _ _ _ => rfl)
      have hus2 : us = (List.range cs.length).map u := by
        have h5 := run_firstCells_some (P := P) w sz' n' ⟨b, o, none⟩ n' c ((List.range cs.length).map u) (by simp [hl]) (fun j v hj => by
          rw [Addr.add_lit]
          rw [List.getElem?_map] at hj
          have hjn : j < cs.length := by
            rcases Nat.lt_or_ge j cs.length with hl' | hl'
            · exact hl'
            · rw [List.getElem?_eq_none (by simp; omega)] at hj; simp at hj
          rw [List.getElem?_range hjn] at hj
          simp at hj
          rw [← hj]
          exact hc _ hjn)
        rw [hf'] at h5
        injection h5 with h5
        exact List.toArray_inj h5
      refine run_firstCells_some (P := P) w sz' k _ n' c _ (by rw [List.length_take, hlen]; exact Nat.min_eq_left hks) fun j v hj => ?_
      rw [Addr.add_lit]
      rw [hus2, List.getElem?_take] at hj
      split at hj
      · rw [List.getElem?_map] at hj
        have hjn : j < cs.length := by
          rcases Nat.lt_or_ge j cs.length with hl' | hl'
          · exact hl'
          · rw [List.getElem?_eq_none (by simp; omega)] at hj; simp at hj
        rw [List.getElem?_range hjn] at hj
        simp at hj
        rw [← hj]
        exact hc _ hjn
      · cases hj
    · cases h
  | _ => simp [elemsA] at h

theorem st_copy (s : Sim B μ H w) {x y v : AV} {xv yv : Value} (hx : VR μ H w x xv) (hy : VR μ H w y yv) {t u ty e : TypeId} (ht : P.underlying t = some (.slice e)) {sz : Nat} (hs : sizeP P e = some sz) {H' : Heap}
    (h : copyA H x y sz = some (v, H')) : StepV P B μ H w (Builtin.copy_ #[t, u] ty #[xv, yv]) v H' := by
  unfold copyA at h
  split at h
  case h_2 => cases h
  rename_i m ys hel
  obtain ⟨hyl, hlen, us, hus, hf⟩ := elemsA_pre s hy hel
  cases hx <;> (try simp only at h) <;> first
    | (cases h; done)
    | skip
  · injection h with h; injection h with h1 h2; subst h1 h2
    refine .pure s ?_ (.int _ _)
    have := hf P 0 (Nat.zero_le _)
    simp at this
    simp [Builtin.copy_, run_underlying ht, run_sizeOf hs, hlen P w, this, goInt]
  · rename_i id tot off n sz' a c hid hle hlc ha
    split at h
    case isFalse => cases h
    rename_i hsz
    subst hsz
    split at h
    case h_2 => cases h
    rename_i H'' hw
    injection h with h; injection h with h1 h2; subst h1 h2
    have htk := hus.take (min m n * sz')
    obtain ⟨w1, w2, w3, w4, w5⟩ := writeO_ok s hw htk
    have hfk := hf P (min m n) (Nat.min_le_left _ _)
    have hmin : Nat.min m n = min m n := rfl
    by_cases hc0 : c = 0
    · have hn0 : n = 0 := by omega
      subst hn0
      have e0 : us.take (min m 0 * sz') = [] := by simp
      rw [e0] at w2 w3
      simp only [World.setCells] at w2 w3
      refine ⟨.int .i64 _, μ, w, ?_, w2, w3, .int _ _⟩
      rw [e0] at hfk
      simp only [Nat.min_zero] at hfk
      cases a <;> simp [Builtin.copy_, run_underlying ht, run_sizeOf hs, hlen P w, hmin, hfk, goInt, storeCells]
    · obtain ⟨rfl, _⟩ := ha w1 hc0
      refine ⟨.int .i64 _, μ, _, ?_, w2, w3, .int _ _⟩
      have hst := run_storeCells_cells (P := P) (μ id).b off _ 0 w (by simpa using w4) (by simpa using w5) htk.one
      simp only [Nat.add_zero] at hst
      simp [Builtin.copy_, run_underlying ht, run_sizeOf hs, hlen P w, hmin, hfk, goInt, hst]

theorem st_len (s : Sim B μ H w) {x : AV} {xv : Value} (hx : VR μ H w x xv) {t ty : TypeId} {n : Nat} (h : slenA x = some n) (ht : (∃ e, P.underlying t = some (.slice e) ∧ ∀ t, x ≠ .str t) ∨ (P.underlying t = some .string ∧ ∃ t, x = .str t)) :
    StepV P B μ H w (Builtin.len_ #[t] ty #[xv]) (.int .i64 n) H := by
  rcases ht with ⟨e, hu, hns⟩ | ⟨hu, u, rfl⟩
  · cases hx <;> simp only [slenA] at h <;> first
      | (cases h; done)
      | (exact (hns _ rfl).elim)
      | (injection h with h; subst h; exact .pure s (by simp [Builtin.len_, run_underlying hu, goInt]) (.int _ _))
  · cases hx
    simp only [slenA] at h; injection h with h; subst h
    exact .pure s (by simp [Builtin.len_, run_underlying hu, goInt]) (.int _ _)
theorem st_lenArr (s : Sim B μ H w) {t ty e : TypeId} {n : Nat} (hu : P.underlying t = some (.array n e)) (x : Value) : StepV P B μ H w (Builtin.len_ #[t] ty #[x]) (.int .i64 n) H :=
  .pure s (by simp [Builtin.len_, run_underlying hu, goInt]) (.int _ _)

/-- How much room a slice has, where that is known. -/
def capA : AV → Option Nat
  | .nils => some 0
  | .lst n _ true _ => some n
  | _ => none
theorem st_cap (s : Sim B μ H w) {x : AV} {xv : Value} (hx : VR μ H w x xv) {t ty e : TypeId} {n : Nat} (h : capA x = some n) (hu : P.underlying t = some (.slice e)) :
    StepV P B μ H w (Builtin.cap_ #[t] ty #[xv]) (.int .i64 n) H := by
  cases hx <;> simp only [capA] at h <;> try cases h
  · exact .pure s (by simp [Builtin.cap_, run_underlying hu, goInt]) (.int _ _)
  · rename_i sz full a c hf
    cases full <;> simp only at h <;> try cases h
    have := hf rfl
    subst this
    exact .pure s (by simp [Builtin.cap_, run_underlying hu, goInt]) (.int _ _)
  · rename_i n' sz full cs b o c u hn hl hlc hf hc h1 hv hown hb
    cases full <;> simp only at h <;> try cases h
    have := hf rfl
    subst this
    exact .pure s (by simp [Builtin.cap_, run_underlying hu, goInt]) (.int _ _)
theorem mmA_ok {isMax : Bool} {x y z : AV} {xv yv : Value} (hx : VR μ H w x xv) (hy : VR μ H w y yv) (h : mmA isMax x y = some z) : ∃ zv, (if isMax then Builtin.max2 xv yv else Builtin.min2 xv yv) = pure zv ∧ VR μ H w z zv := by
  cases hx <;> cases hy <;> simp only [mmA] at h <;> first
    | (cases h; done)
    | skip
  cases isMax <;> simp only [Bool.false_eq_true, ↓reduceIte] at h ⊢ <;> (injection h with h; subst h; exact ⟨_, rfl, .int _ _⟩)
theorem mmsA_ok {isMax : Bool} : ∀ {ys : List AV} {x z : AV} {xv : Value} {yvs : List Value}, VR μ H w x xv → yvs.length = ys.length → (∀ i (h : i < ys.length) (h' : i < yvs.length), VR μ H w ys[i] yvs[i]) → mmsA isMax x ys = some z →
    ∃ zv, (yvs.foldlM (if isMax then Builtin.max2 else Builtin.min2) xv : Sem Value).run P w = .ok zv w ∧ VR μ H w z zv
  | [], x, z, xv, yvs, hx, hl, _, h => by
    have : yvs = [] := List.eq_nil_of_length_eq_zero (by simpa using hl)
    subst this
    simp only [mmsA] at h; injection h with h; subst h
    exact ⟨xv, rfl, hx⟩
  | y :: r, x, z, xv, yvs, hx, hl, hv, h => by
    cases yvs with
    | nil => simp at hl
    | cons yv rv =>
      simp only [mmsA] at h
      split at h
      · rename_i z' hz
        obtain ⟨zv, e1, e2⟩ := mmA_ok hx (hv 0 (by simp) (by simp)) hz
        obtain ⟨zv', e3, e4⟩ := mmsA_ok (yvs := rv) e2 (by simpa using hl) (fun i h1 h2 => by
          have := hv (i + 1) (by simpa using h1) (by simpa using h2)
          simp only [List.getElem_cons_succ] at this
          exact this) h
        refine ⟨zv', ?_, e4⟩
        simp only [List.foldlM_cons, Sem.run_bind]
        simp only [List.getElem_cons_zero] at e1
        cases isMax <;> simp only [Bool.false_eq_true, ↓reduceIte] at e1 e3 ⊢ <;> rw [e1] <;> simp only [Sem.run_pure, Result.andThen_ok] <;> exact e3
      · cases h

theorem madeCells_get {z : Array Value} {zs : List AV} (hz : VRs μ H w zs z.toList) (hpos : 0 < zs.length) (n l : Nat) (hl : l * zs.length ≤ n) :
    ∀ k (h : k < (zrep zs l).length), ∃ u, (madeCells z n)[k]? = some u ∧ u.oneCell' = true ∧ VR μ H w (zrep zs l)[k] u := by
  have hsz : z.size = zs.length := by simpa using hz.1
  have hlen : ∀ l, (zrep zs l).length = l * zs.length := by
    intro l; induction l with
    | zero => simp [zrep]
    | succ l ih => simp [zrep, ih, Nat.add_mul]; omega
  have hget : ∀ l k (h : k < (zrep zs l).length), (zrep zs l)[k] = zs[k % zs.length]'(Nat.mod_lt _ hpos) := by
    intro l; induction l with
    | zero => intro k h; simp [zrep] at h
    | succ l ih =>
      intro k h
      simp only [zrep]
      by_cases hk : k < zs.length
      · rw [List.getElem_append_left hk]; congr 1; exact (Nat.mod_eq_of_lt hk).symm
      · rw [List.getElem_append_right (by omega), ih]
        congr 1
        exact (Nat.mod_eq_sub_mod (by omega)).symm
  intro k hk
  have hk' := hk
  rw [hlen] at hk'
  obtain ⟨u, u1, u2, u3⟩ := hz.2 (k % zs.length) (Nat.mod_lt _ hpos)
  refine ⟨u, ?_, u2, by rw [hget]; exact u3⟩
  unfold madeCells
  rw [Array.getElem?_map, Array.getElem?_range, if_pos (by omega)]
  simp only [Option.map_some, hsz]
  congr 1
  rw [getElem!_def]
  have : z[k % zs.length]? = some u := by simpa using u1
  rw [this]
theorem zrep_length (zs : List AV) (l : Nat) : (zrep zs l).length = l * zs.length := by
  induction l with
  | zero => simp [zrep]
  | succ l ih => simp [zrep, ih, Nat.add_mul]; omega

theorem st_make (s : Sim B μ H w) {t e : TypeId} (ht : P.underlying t = some (.slice e)) {sz bytes : Nat} {zs : List AV} (he : elemP P e = some (sz, bytes, zs)) (kl kc : IntKind) {l c : Int} (h0 : 0 ≤ l) (hlc : l ≤ c) (hb : (bytes : Int) * c ≤ 281474976710656) (h63 : c ≤ 9223372036854775807) :
    StepV P B μ H w (Instr.makeSlice t (.int kl l) (.int kc c)) (.slc H.length (l.toNat * sz) 0 l.toNat sz) (H ++ [.cells e true (zrep zs l.toNat)]) := by
  obtain ⟨i, z, hi, hz, rfl, rfl, hzs, hpos, hzl, hz0, hz1⟩ := elemP_ok he
  have hr := run_make (P := P) w t e i z ht hi hz kl kc l c h0 hlc hb h63
  have hsz : (madeCells z.cells (c.toNat * i.size)).size = c.toNat * i.size := by simp [madeCells]
  have hle : l.toNat * i.size ≤ c.toNat * i.size := Nat.mul_le_mul_right _ (by omega)
  have hlen : (zrep zs l.toNat).length = l.toNat * i.size := by rw [zrep_length, hzl]
  have k := s.new e true (zrep zs l.toNat) (madeCells z.cells (c.toNat * i.size)) (0, 0) (fun k _ h => by simp at h) (by rw [hlen, hsz]; exact hle) (fun h => by cases h)
    (madeCells_get (hz0 μ H w) (by omega) _ _ (by rw [hzl]; exact hle))
  refine ⟨_, _, _, hr, k, Ext.new s _ _ _, .slc _ _ _ _ _ _ _ (by simp) (by rw [totAt_new, hlen]; exact Nat.le_refl _) (by omega) fun _ _ => ⟨by rw [put_same], ?_⟩⟩
  rw [put_same, hsz, Nat.zero_add]
  exact Nat.le_refl _
/-- append(nil, make(.., n)...): a new row. -/
def appMA (H : Heap) (e : TypeId) (sz bytes : Nat) (zs : List AV) (x n : AV) : Option (AV × Heap) := match x, n with
  | .nils, .int _ l => if 0 < l ∧ l * (bytes : Int) ≤ 140737488355328 ∧ l ≤ 9223372036854775807 then some (.slc H.length (l.toNat * sz) 0 l.toNat sz, H ++ [.cells e true (zrep zs l.toNat)]) else none
  | _, _ => none
theorem st_appMake (s : Sim B μ H w) {x y v : AV} {xv yv : Value} (hx : VR μ H w x xv) (hy : VR μ H w y yv) {t u ty e : TypeId} {ik : IntKind} (ht : P.underlying t = some (.slice e)) (hu : P.underlying u = some (.int ik)) {sz bytes : Nat} {zs : List AV} (he : elemP P e = some (sz, bytes, zs)) {H' : Heap}
    (h : appMA H e sz bytes zs x y = some (v, H')) : StepV P B μ H w (Builtin.append_ #[t, u] ty #[xv, yv]) v H' := by
  obtain ⟨i, z, hi, hz, rfl, rfl, hzs, hpos, hzl, hz0, hz1⟩ := elemP_ok he
  unfold appMA at h
  split at h
  case h_2 => cases h
  rename_i k l
  split at h
  case isFalse => cases h
  rename_i hh
  obtain ⟨h0, hb, h63⟩ := hh
  injection h with h; injection h with h1 h2; subst h1 h2
  cases hx
  cases hy
  obtain ⟨n, rfl⟩ : ∃ n : Nat, l = n := ⟨l.toNat, by omega⟩
  have hb' : n * i.bytes ≤ 140737488355328 := by have := hb; rw [← Int.natCast_mul] at this; omega
  have hzz : z.cells.size = zs.length := by simpa using (hz0 (fun _ => ⟨0, 0⟩) [] default).1
  have hsz : i.size = zs.length := by omega
  have hus : VRs μ H w (zrep zs n) (Builtin.zeroCells z.cells n).toList := by
    refine ⟨by simp [size_zeroCells, zrep_length, hzz], fun k hk => ?_⟩
    have := madeCells_get (hz0 μ H w) (by omega) (n * zs.length) n (Nat.le_refl _) k hk
    obtain ⟨u, u1, u2, u3⟩ := this
    refine ⟨u, ?_, u2, u3⟩
    rw [Array.getElem?_toList]
    rw [← u1]
    unfold Builtin.zeroCells madeCells
    rw [hzz]
  have hw : IntKind.i64.wrap (n : Int) = n := by rw [IntKind.wrap_i64]; omega
  have h48 : ¬ (281474976710656 < (n : Int) * (i.bytes : Int)) := by rw [← Int.natCast_mul]; omega
  have h48' : ¬ (281474976710656 < Builtin.nextslicecap n 0 * i.bytes) := by have := growslice_fits (need := n) (old := 0) (bytes := i.bytes) (by omega) hb'; omega
  have hlz : (zrep zs n).length = n * i.size := by rw [zrep_length, hsz]
  show StepV P B μ H w _ (.slc H.length (n * i.size) 0 n i.size) (H ++ [.cells e true (zrep zs n)])
  rw [← hlz]
  refine st_appNew s (cs := []) (os := []) VRs.nil hus (Builtin.zeroCells z.cells (grownCap w n 0 e - n)) n i.size (grownCap w n 0 e) hlz.symm (grownCap_ge w _ _ _) ?_ ?_
  · have := grownCap_ge w n 0 e
    simp only [List.length_nil, Nat.zero_add, size_zeroCells, hzs, Array.length_toList, ← Nat.add_mul]
    congr 1; omega
  · have hn0 : ¬ n = 0 := by omega
    have hs0 : ¬ i.size = 0 := by omega
    have h63' : ¬ (9223372036854775807 < (n : Int)) := by omega
    have hneg : ¬ ((n : Int) < 0) := by omega
    have hnz : ¬ n * i.size = 0 := Nat.ne_of_gt (Nat.mul_pos (by omega) hpos)
    simp [Builtin.append_, Builtin.firstCells, run_underlying ht, run_underlying hu, sizeOf, typeInfo, zeroValue, hi, hz, hw, h48, h48', hneg, hn0, hs0, h63', Question.forced, newRow, grownCap, asInt, asIntOf]
    exact fun h => absurd h hnz
end
end Go.Proofs.Ah

/- More operations' steps: what is built of parts. -/
set_option linter.unusedVariables false
set_option linter.unusedSimpArgs false
namespace Go.Proofs.Ah
open Go

/-- Where part number i of a type's value lies. -/
def placeP (P : Program) (t : TypeId) (i : Nat) : Option (Nat × Nat) :=
  match P.underlying t with
  | some (.array _ e) => match sizeP P e with
    | some n => some (i * n, n)
    | none => none
  | some (.struct fs) => match fs[i]? with
    | some f => match sizeP P f.type with
      | some n => some (f.offset, n)
      | none => none
    | none => none
  | _ => none
/-- All fields' types have a size. -/
def sizesOk (P : Program) (t : TypeId) : Bool :=
  match P.underlying t with
  | some (.array _ e) => (sizeP P e).isSome
  | some (.struct fs) => fs.toList.all fun f => (sizeP P f.type).isSome
  | _ => false

section
variable {P : Program} {B : Nat} {μ : Nat → Pl} {H : Heap} {w : World}

theorem foldl_set (off : Nat) : ∀ (vs : List Value) (j0 : Nat) (cs : Array Value),
    ((vs.zipIdx j0).foldl (fun (cs : Array Value) (x : Value × Nat) => cs.setIfInBounds (off + x.2) x.1) cs).size = cs.size ∧
      ∀ k, k < cs.size → ((vs.zipIdx j0).foldl (fun (cs : Array Value) (x : Value × Nat) => cs.setIfInBounds (off + x.2) x.1) cs)[k]? = if off + j0 ≤ k ∧ k < off + j0 + vs.length then vs[k - (off + j0)]? else cs[k]?
  | [], j0, cs => ⟨rfl, fun k hk => by simp; omega⟩
  | v :: r, j0, cs => by
    have ih := foldl_set off r (j0 + 1) (cs.setIfInBounds (off + j0) v)
    simp only [List.zipIdx_cons, List.foldl_cons]
    refine ⟨by rw [ih.1]; simp, fun k hk => ?_⟩
    rw [ih.2 k (by simpa using hk)]
    by_cases h1 : off + (j0 + 1) ≤ k ∧ k < off + (j0 + 1) + r.length
    · rw [if_pos h1, if_pos (by simp; omega)]
      rw [show k - (off + j0) = (k - (off + (j0 + 1))) + 1 by omega, List.getElem?_cons_succ]
    · rw [if_neg h1]
      by_cases h2 : k = off + j0
      · subst h2
        rw [if_pos (by simp), Array.getElem?_setIfInBounds_self_of_lt hk]
        simp
      · rw [if_neg (by simp; omega), Array.getElem?_setIfInBounds_ne (by omega)]

theorem fill_ok (place : Nat → Option (Nat × Nat)) : ∀ (parts : List (Nat × Value)) (ps : List (Nat × Nat × AV)) (zs cs : List AV) (arr : Array Value), VRs μ H w zs arr.toList → ps.length = parts.length →
    (∀ i (h : i < parts.length) (h' : i < ps.length), place parts[i].1 = some (ps[i].1, ps[i].2.1) ∧ VR μ H w ps[i].2.2 parts[i].2) → fillA zs ps = some cs → ∃ cells, Instr.fill place arr parts = some cells ∧ VRs μ H w cs cells.toList
  | [], ps, zs, cs, arr, hz, hl, hp, h => by
    have : ps = [] := List.eq_nil_of_length_eq_zero (by simpa using hl)
    subst this
    simp only [fillA] at h; injection h with h; subst h
    exact ⟨arr, rfl, hz⟩
  | (i, v) :: rest, ps, zs, cs, arr, hz, hl, hp, h => by
    cases ps with
    | nil => simp at hl
    | cons p pr =>
      obtain ⟨off, n, x⟩ := p
      simp only [fillA] at h
      split at h
      · rename_i hc
        obtain ⟨c1, c2, c3⟩ := hc
        have h0 := hp 0 (by simp) (by simp)
        simp only [List.getElem_cons_zero] at h0
        have hx := h0.2.cellsR c3
        have hxl : v.cells.size = n := by have := hx.1; simp at this; omega
        have hal : arr.size = zs.length := by simpa using hz.1
        have hf := foldl_set off v.cells.toList 0 arr
        have e1 : v.cells.zipIdx.foldl (fun cs (x : Value × Nat) => cs.setIfInBounds (off + x.2) x.1) arr = (v.cells.toList.zipIdx 0).foldl (fun (cs : Array Value) (x : Value × Nat) => cs.setIfInBounds (off + x.2) x.1) arr := by
          rw [← Array.foldl_toList]; simp
        have hspl : VRs μ H w (splice zs off x.cells) (v.cells.zipIdx.foldl (fun cs (x : Value × Nat) => cs.setIfInBounds (off + x.2) x.1) arr).toList := by
          rw [e1]
          refine ⟨by rw [splice_length _ _ _ (by omega)]; simp only [Array.length_toList]; rw [hf.1, hal]; omega, fun k hk => ?_⟩
          rw [splice_length _ _ _ (by omega)] at hk
          have hkl : k < zs.length := by omega
          have hg := splice_get zs off x.cells (by omega) k
          rw [List.getElem?_eq_getElem (by rw [splice_length _ _ _ (by omega)]; exact hk)] at hg
          have hfk := hf.2 k (by omega)
          simp only [Nat.add_zero, Array.length_toList] at hfk
          simp only [Array.getElem?_toList]
          rw [hfk]
          by_cases hin : off ≤ k ∧ k < off + x.cells.length
          · rw [if_pos hin] at hg
            rw [if_pos (by omega)]
            obtain ⟨u, u1, u2, u3⟩ := hx.2 (k - off) (by omega)
            refine ⟨u, by simpa using u1, u2, ?_⟩
            rw [List.getElem?_eq_getElem (by omega)] at hg
            injection hg with hg
            rw [hg]; exact u3
          · rw [if_neg hin] at hg
            rw [if_neg (by omega)]
            obtain ⟨u, u1, u2, u3⟩ := hz.2 k hkl
            refine ⟨u, by simpa using u1, u2, ?_⟩
            rw [List.getElem?_eq_getElem hkl] at hg
            injection hg with hg
            rw [hg]; exact u3
        obtain ⟨cells, r1, r2⟩ := fill_ok place rest pr _ cs _ hspl (by simpa using hl) (fun j h1 h2 => by
          have := hp (j + 1) (by simpa using h1) (by simpa using h2)
          simp only [List.getElem_cons_succ] at this
          exact this) h
        refine ⟨cells, ?_, r2⟩
        unfold Instr.fill
        simp only [h0.1]
        rw [if_neg (by simp; omega)]
        exact r1
      · cases h

theorem built_ok {t : TypeId} {zs : List AV} (hz : zeroP P t = some zs) (hs : sizesOk P t = true) (parts : List (Nat × Value)) (ps : List (Nat × Nat × AV)) {cs : List AV} (hl : ps.length = parts.length)
    (hp : ∀ i (h : i < parts.length) (h' : i < ps.length), placeP P t parts[i].1 = some (ps[i].1, ps[i].2.1) ∧ VR μ H w ps[i].2.2 parts[i].2) (h : fillA zs ps = some cs) : ∃ cells, P.built t parts = some cells ∧ VRs μ H w cs cells.toList := by
  unfold zeroP at hz
  cases hi : P.info? t with
  | none => rw [hi] at hz; simp at hz
  | some it =>
    rw [hi] at hz
    simp only [Option.bind_some] at hz
    cases hzz : it.zero with
    | none => rw [hzz] at hz; simp at hz
    | some z =>
      rw [hzz] at hz
      simp only [Option.bind_some] at hz
      have hzr := (cList_ok (μ := μ) (H := H) (w := w) hz).1
      unfold sizesOk at hs
      split at hs
      · rename_i n e hu
        unfold sizeP at hs
        cases hie : P.info? e with
        | none => rw [hie] at hs; simp at hs
        | some ie =>
          obtain ⟨cells, c1, c2⟩ := fill_ok (μ := μ) (H := H) (w := w) (fun i => some (i * ie.size, ie.size)) parts ps zs cs z.cells hzr hl (fun i h1 h2 => by
            have := hp i h1 h2
            refine ⟨?_, this.2⟩
            have h3 := this.1
            unfold placeP at h3
            simp only [hu, sizeP, hie, Option.map_some] at h3
            exact h3) h
          exact ⟨cells, by unfold Program.built; simp only [hi, hu, hzz, hie]; exact c1, c2⟩
      · rename_i fs hu
        have hm : ∀ (l : List Field), l.all (fun f => (sizeP P f.type).isSome) = true → ∃ places : List (Nat × Nat), l.mapM (fun (f : Field) => (P.info? f.type).map fun i => (f.offset, i.size)) = some places ∧ ∀ i : Nat, places[i]? = match l[i]? with
            | some f => match sizeP P f.type with
              | some n => some (f.offset, n)
              | none => none
            | none => none := by
          intro l
          induction l with
          | nil => intro _; exact ⟨[], rfl, fun i => by simp⟩
          | cons f l ih =>
            intro hall
            simp only [List.all_cons, Bool.and_eq_true] at hall
            obtain ⟨places, p1, p2⟩ := ih hall.2
            have hf := hall.1
            unfold sizeP at hf
            cases hie : P.info? f.type with
            | none => rw [hie] at hf; simp at hf
            | some ie =>
              refine ⟨(f.offset, ie.size) :: places, by simp [List.mapM_cons, hie, p1], fun i => ?_⟩
              cases i with
              | zero => simp [sizeP, hie]
              | succ i => simpa using p2 i
        obtain ⟨places, p1, p2⟩ := hm fs.toList hs
        obtain ⟨cells, c1, c2⟩ := fill_ok (μ := μ) (H := H) (w := w) (places.toArray[·]?) parts ps zs cs z.cells hzr hl (fun i h1 h2 => by
          have := hp i h1 h2
          refine ⟨?_, this.2⟩
          have h3 := this.1
          unfold placeP at h3
          simp only [hu] at h3
          have := p2 parts[i].1
          simp only [List.getElem?_toArray] 
          rw [this]
          simpa using h3) h
        exact ⟨cells, by unfold Program.built; simp only [hi, hu, hzz, p1]; exact c1, c2⟩
      · cases hs

theorem st_build (s : Sim B μ H w) {t : TypeId} {zs : List AV} (hz : zeroP P t = some zs) (hs : sizesOk P t = true) (parts : Array (Nat × Value)) (ps : List (Nat × Nat × AV)) {cs : List AV} (hl : ps.length = parts.size)
    (hp : ∀ i (h : i < parts.toList.length) (h' : i < ps.length), placeP P t parts.toList[i].1 = some (ps[i].1, ps[i].2.1) ∧ VR μ H w ps[i].2.2 parts.toList[i].2) (h : fillA zs ps = some cs) : StepV P B μ H w (Instr.build t parts) (.agg cs) H := by
  obtain ⟨cells, c1, c2⟩ := built_ok hz hs parts.toList ps (by simpa using hl) hp h
  refine .pure s (run_build w t parts cells c1) ?_
  have := c2.agg
  simpa using this

/-- A literal slice's cells. -/
theorem lit_cells {t e : TypeId} (ht : P.underlying t = some (.slice e)) {sz bytes : Nat} {zs : List AV} (he : elemP P e = some (sz, bytes, zs)) (n : Nat) (hn : n * sz ≤ 16777216) (parts : Array (Nat × Value)) (ps : List (Nat × Nat × AV)) {cs : List AV} (hl : ps.length = parts.size)
    (hp : ∀ i (h : i < parts.toList.length) (h' : i < ps.length), ps[i].1 = parts.toList[i].1 * sz ∧ ps[i].2.1 = sz ∧ VR μ H w ps[i].2.2 parts.toList[i].2) (h : fillA (zrep zs n) ps = some cs) :
    ∃ cells : Array Value, VRs μ H w cs cells.toList ∧ (Instr.buildSlice t n parts).run P w = .ok (.slice (some ⟨w.heap.size, 0, none⟩) n n) (w.alloc (.cells cells e)) := by
  obtain ⟨i, z, hi, hz, rfl, rfl, hzs, hpos, hzl, hz0, hz1⟩ := elemP_ok he
  have hs : sizeP P e = some i.size := by simp [sizeP, hi]
  have hzr : VRs μ H w (zrep zs n) (madeCells z.cells (n * i.size)).toList := by
    refine ⟨by simp [madeCells, zrep_length, hzl], fun k hk => ?_⟩
    simpa using madeCells_get (hz0 μ H w) (by omega) (n * i.size) n (by rw [hzl]; exact Nat.le_refl _) k hk
  obtain ⟨cells, c1, c2⟩ := fill_ok (μ := μ) (H := H) (w := w) (fun j => some (j * i.size, i.size)) parts.toList ps _ cs _ hzr (by simpa using hl) (fun j h1 h2 => by
    obtain ⟨q1, q2, q3⟩ := hp j h1 h2
    exact ⟨by rw [q1, q2], q3⟩) h
  refine ⟨cells, c2, ?_⟩
  have hnot : ¬ (16777216 < n * i.size) := by omega
  by_cases h0 : n * i.size = 0
  · have hm : madeCells z.cells (n * i.size) = #[] := by rw [h0]; simp [madeCells]
    rw [hm] at c1
    have e0 : Array.map (fun (_ : Nat) => (default : Value)) (Array.range 0) = #[] := by simp
    simp [Instr.buildSlice, run_underlying ht, run_sizeOf hs, h0, newRow, e0, c1]
  · unfold madeCells at c1
    simp [Instr.buildSlice, run_underlying ht, run_sizeOf hs, hnot, h0, zeroValue, typeInfo, hi, hz, newRow, c1]
theorem st_lit (s : Sim B μ H w) {t e : TypeId} (ht : P.underlying t = some (.slice e)) {sz bytes : Nat} {zs : List AV} (he : elemP P e = some (sz, bytes, zs)) (n : Nat) (hn : n * sz ≤ 16777216) (parts : Array (Nat × Value)) (ps : List (Nat × Nat × AV)) {cs : List AV} (hl : ps.length = parts.size)
    (hp : ∀ i (h : i < parts.toList.length) (h' : i < ps.length), ps[i].1 = parts.toList[i].1 * sz ∧ ps[i].2.1 = sz ∧ VR μ H w ps[i].2.2 parts.toList[i].2) (h : fillA (zrep zs n) ps = some cs) (hc : cs.length = n * sz) : StepV P B μ H w (Instr.buildSlice t n parts) (.lst n sz true cs) H := by
  obtain ⟨cells, c1, c2⟩ := lit_cells ht he n hn parts ps hl hp h
  have E := Ext.alloc s (.cells cells e)
  refine ⟨_, μ, _, c2, s.alloc _, E, ?_⟩
  by_cases h0 : n = 0
  · subst h0
    have : cs = [] := List.eq_nil_of_length_eq_zero (by simpa using hc)
    subst this
    exact .lst0 _ _ _ _ (fun _ => rfl)
  · have hcm := c1.mono E
    have hsz : cells.size = cs.length := by simpa using c1.1
    have hg : ∀ i (h : i < cs.length), cells[i]? = some (cells[i]'(by omega)) := fun i h => Array.getElem?_eq_getElem (by omega)
    refine .lst n sz true cs w.heap.size 0 n (fun i => cells.getD i undef) (by omega) hc (Nat.le_refl _) (fun _ => rfl) (fun i hi => ?_) (fun i hi => ?_) (fun i hi => ?_) (fun ho => ?_) (by simp)
    · rw [Nat.zero_add, cell_of_row _ _ i cells e (0, 0) (heap_alloc_new w _), hg i hi]
      simp [Array.getD, show i < cells.size by omega]
    · obtain ⟨u, u1, u2, _⟩ := c1.2 i hi
      have : cells.getD i undef = u := by simp at u1; simp [Array.getD, show i < cells.size by omega]; have := hg i hi; rw [this] at u1; injection u1
      rw [this]; exact u2
    · obtain ⟨u, u1, _, u3⟩ := hcm.2 i hi
      have : cells.getD i undef = u := by simp at u1; simp [Array.getD, show i < cells.size by omega]; have := hg i hi; rw [this] at u1; injection u1
      rw [this]; exact u3
    · have := s.own_lt ho; simp at this
theorem st_litObj (s : Sim B μ H w) {t e : TypeId} (ht : P.underlying t = some (.slice e)) {sz bytes : Nat} {zs : List AV} (he : elemP P e = some (sz, bytes, zs)) (n : Nat) (hn : n * sz ≤ 16777216) (parts : Array (Nat × Value)) (ps : List (Nat × Nat × AV)) {cs : List AV} (hl : ps.length = parts.size)
    (hp : ∀ i (h : i < parts.toList.length) (h' : i < ps.length), ps[i].1 = parts.toList[i].1 * sz ∧ ps[i].2.1 = sz ∧ VR μ H w ps[i].2.2 parts.toList[i].2) (h : fillA (zrep zs n) ps = some cs) (hc : cs.length = n * sz) : StepV P B μ H w (Instr.buildSlice t n parts) (.slc H.length cs.length 0 n sz) (H ++ [.cells e true cs]) := by
  obtain ⟨cells, c1, c2⟩ := lit_cells ht he n hn parts ps hl hp h
  have hsz : cells.size = cs.length := by simpa using c1.1
  obtain ⟨μ', k1, k2, k3⟩ := st_newRoom s e c1 #[] n sz n (by omega) (Nat.le_refl _) (by simp; omega)
  have e0 : cells.toList.toArray ++ #[] = cells := by simp
  rw [e0] at k1 k2 k3
  exact ⟨_, μ', _, c2, k1, k2, k3⟩
end
end Go.Proofs.Ah

/- Two structs of plain fields: are they the same? -/
set_option linter.unusedVariables false
set_option linter.unusedSimpArgs false
namespace Go.Proofs.Ah
open Go

inductive Tag where | int | bool | str
def eqCell : Tag → AV → AV → Option Bool
  | .int, .int k a, .int k' b => if k = k' then some (a == b) else none
  | .bool, .bool a, .bool b => some (a == b)
  | .str, .str a, .str b => some (a.toList == b.toList)
  | _, _, _ => none
def eqCells : List Tag → List AV → List AV → Option Bool
  | [], [], [] => some true
  | t :: ts, a :: r, b :: s => match eqCell t a b with
    | some true => eqCells ts r s
    | some false => some false
    | none => none
  | _, _, _ => none
def tagOf (P : Program) (t : TypeId) : Option Tag := match P.underlying t with
  | some (.int _) => some .int
  | some .bool => some .bool
  | some .string => some .str
  | _ => none
def tagsOf (P : Program) : Nat → List Field → Option (List Tag)
  | _, [] => some []
  | i, f :: r => if (f.name == "_") = false ∧ f.offset = i ∧ isAggP P f.type = some false ∧ sizeP P f.type = some 1 then match tagOf P f.type, tagsOf P (i + 1) r with
    | some t, some ts => some (t :: ts)
    | _, _ => none else none
def flatP (P : Program) (t : TypeId) : Option (List Tag) := match P.underlying t with
  | some (.struct fs) => if P.stoodInHeld t = false ∧ P.eqGuardType P.depth t = false then tagsOf P 0 fs.toList else none
  | _ => none

section
variable {P : Program} {B : Nat} {μ : Nat → Pl} {H : Heap} {w : World}

theorem eqCell_ok {x y : AV} {xv yv : Value} (hx : VR μ H w x xv) (hy : VR μ H w y yv) {t : TypeId} {g : Tag} (ht : tagOf P t = some g) {b : Bool} (h : eqCell g x y = some b) (d : Nat) (W : World) : (Op.equalIn (d + 1) t xv yv).run P W = .ok b W := by
  unfold tagOf at ht
  split at ht <;> (try cases ht)
  · rename_i k hu
    cases x <;> (try (simp [eqCell] at h; done))
    cases y <;> (try (simp [eqCell] at h; done))
    cases hx; cases hy
    simp only [eqCell] at h
    split at h
    · rename_i hk
      subst hk
      injection h with h; subst h
      exact run_equalIn_int W d t _ _ _ _ hu
    · cases h
  · rename_i hu
    cases x <;> (try (simp [eqCell] at h; done))
    cases y <;> (try (simp [eqCell] at h; done))
    cases hx; cases hy
    simp only [eqCell] at h; injection h with h; subst h
    exact run_equalIn_bool' W d t _ _ hu
  · rename_i hu
    cases x <;> (try (simp [eqCell] at h; done))
    cases y <;> (try (simp [eqCell] at h; done))
    cases hx; cases hy
    simp only [eqCell] at h; injection h with h; subst h
    exact run_equalIn_string W d t _ _ hu

theorem eqCells_ok {cs ds : List AV} {cv dv : Array Value} (hc : cv.size = cs.length) (hcv : ∀ i (h : i < cs.length) (h' : i < cv.size), VR μ H w cs[i] cv[i]) (hd : dv.size = ds.length) (hdv : ∀ i (h : i < ds.length) (h' : i < dv.size), VR μ H w ds[i] dv[i]) (d : Nat) :
    ∀ (fs : List Field) (i : Nat) (gs : List Tag), tagsOf P i fs = some gs → ∀ (b : Bool), eqCells gs (cs.drop i) (ds.drop i) = some b → (Op.eqFields (d + 1) cv dv fs).run P w = .ok b w
  | [], i, gs, ht, b, h => by
    simp only [tagsOf] at ht; injection ht with ht; subst ht
    cases hcs : cs.drop i with
    | nil =>
      cases hds : ds.drop i with
      | nil => rw [hcs, hds] at h; simp only [eqCells] at h; injection h with h; subst h; simp [Op.eqFields]
      | cons a r => rw [hcs, hds] at h; simp [eqCells] at h
    | cons a r => rw [hcs] at h; simp [eqCells] at h
  | f :: fs, i, gs, ht, b, h => by
    simp only [tagsOf] at ht
    split at ht
    · rename_i hf
      obtain ⟨h1, rfl, h3, h4⟩ := hf
      split at ht
      · rename_i g gs' hg hgs
        injection ht with ht; subst ht
        cases hcs : cs.drop f.offset with
        | nil => rw [hcs] at h; simp [eqCells] at h
        | cons x r =>
          cases hds : ds.drop f.offset with
          | nil => rw [hcs, hds] at h; simp [eqCells] at h
          | cons y s =>
            have hxl : f.offset < cs.length := by
              rcases Nat.lt_or_ge f.offset cs.length with h' | h'
              · exact h'
              · rw [List.drop_eq_nil_of_le h'] at hcs; cases hcs
            have hyl : f.offset < ds.length := by
              rcases Nat.lt_or_ge f.offset ds.length with h' | h'
              · exact h'
              · rw [List.drop_eq_nil_of_le h'] at hds; cases hds
            rw [List.drop_eq_getElem_cons hxl] at hcs
            rw [List.drop_eq_getElem_cons hyl] at hds
            injection hcs with x1 x2
            injection hds with y1 y2
            rw [List.drop_eq_getElem_cons hxl, List.drop_eq_getElem_cons hyl] at h
            simp only [eqCells] at h
            obtain ⟨rx, px, vx⟩ := run_part (P := P) (w := w) h3 h4 (fun _ => rfl) hc hcv (v := cs[f.offset]) (off := f.offset) (by omega) (by
              rw [show (cs.drop f.offset).take 1 = [cs[f.offset]] from by rw [List.drop_eq_getElem_cons hxl]; rfl]; rfl)
            obtain ⟨ry, py, vy⟩ := run_part (P := P) (w := w) h3 h4 (fun _ => rfl) hd hdv (v := ds[f.offset]) (off := f.offset) (by omega) (by
              rw [show (ds.drop f.offset).take 1 = [ds[f.offset]] from by rw [List.drop_eq_getElem_cons hyl]; rfl]; rfl)
            have hne : f.name ≠ "_" := by intro e; rw [e] at h1; simp at h1
            simp only [Op.eqFields, if_pos hne, Sem.run_bind, px, py, Result.andThen_ok]
            split at h
            · rename_i he
              rw [eqCell_ok vx vy hg he d w]
              simp only [Result.andThen_ok, Bool.not_true, Bool.false_eq_true, if_false]
              exact eqCells_ok hc hcv hd hdv d fs (f.offset + 1) gs' hgs b h
            · rename_i he
              injection h with h; subst h
              rw [eqCell_ok vx vy hg he d w]
              simp
            · cases h
      · cases ht
    · cases ht

theorem st_eqg (s : Sim B μ H w) {cs ds : List AV} {xv yv : Value} (hx : VR μ H w (.agg cs) xv) (hy : VR μ H w (.agg ds) yv) {t : TypeId} {gs : List Tag} (ht : flatP P t = some gs) (ox oy : Operand) {b : Bool} (h : eqCells gs cs ds = some b) {op : BinOp} {r : Bool} (ho : (op = .eql ∧ r = b) ∨ (op = .neq ∧ r = !b)) :
    StepV P B μ H w (do eqGuard op t ox oy xv yv; binOp op t xv yv) (.bool r) H := by
  cases hx with
  | agg _ cv hc hcv =>
    cases hy with
    | agg _ dv hd hdv =>
      unfold flatP at ht
      split at ht
      · rename_i fs hu
        split at ht
        · rename_i hp
          have hfs : P.fieldsOf t = fs := by unfold Program.fieldsOf; rw [hu]
          have hrun : (Op.equalIn 10000 t (.agg cv) (.agg dv)).run P w = .ok b w := by
            rw [run_equalIn_struct w 9999 t cv dv (by rw [hfs]; exact hu) hp.1, hfs]
            exact eqCells_ok hc hcv hd hdv 9998 fs.toList 0 gs ht b (by simpa using h)
          refine .pure s (r := .bool r) ?_ (.bool _)
          simp only [Sem.run_bind, run_eqGuard_agg w op t ox oy cv dv hp.2, Result.andThen_ok]
          rcases ho with ⟨rfl, rfl⟩ | ⟨rfl, rfl⟩
          · rw [run_eql_struct, hrun]; rfl
          · rw [run_neq_struct, hrun]; rfl
        · cases ht
      · cases ht
end
end Go.Proofs.Ah

/- Maps whose keys are numbers, or arrays of numbers: made, asked, written. -/
set_option linter.unusedVariables false
set_option linter.unusedSimpArgs false
namespace Go.Proofs.Ah
open Go

inductive KeyT where
  | one (k : IntKind)
  | arr (n : Nat) (k : IntKind)
def keyP (P : Program) (t : TypeId) : Option KeyT := match P.underlying t with
  | some (.int k) => some (.one k)
  | some (.array n e) => match P.underlying e with
    | some (.int k) => if isAggP P e = some false ∧ P.cellsOf e = 1 then some (.arr n k) else none
    | _ => none
  | _ => none
def intsA (k : IntKind) : List AV → Option (List Int)
  | [] => some []
  | v :: r => match v with
    | .int k' n => if k' = k then match intsA k r with
      | some l => some (n :: l)
      | none => none else none
    | _ => none
def keyA : KeyT → AV → Option (List Int)
  | .one k, .int k' n => if k' = k then some [n] else none
  | .arr m k, .agg cs => if cs.length = m then intsA k cs else none
  | _, _ => none
def keyV : KeyT → List Int → Value
  | .one k, [n] => .int k n
  | .arr _ k, ns => .agg (ns.map (Value.int k)).toArray
  | _, _ => .nilFunc
def KeyOk : KeyT → List Int → Prop
  | .one _, ns => ns.length = 1
  | .arr m _, ns => ns.length = m
section
variable {P : Program} {B : Nat} {μ : Nat → Pl} {H : Heap} {w : World}
theorem intsA_ok {k : IntKind} : ∀ {cs : List AV} {ns : List Int}, intsA k cs = some ns → cs = ns.map (AV.int k)
  | [], ns, h => by simp only [intsA] at h; injection h with h; subst h; rfl
  | v :: r, ns, h => by
    cases v <;> simp only [intsA] at h <;> try cases h
    rename_i k' n
    split at h
    · rename_i hk
      split at h
      · rename_i l hl
        injection h with h; subst h; subst hk
        rw [intsA_ok hl]; rfl
      · cases h
    · cases h
theorem keyA_ok {kt : KeyT} {v : AV} {ns : List Int} (h : keyA kt v = some ns) {x : Value} (hx : VR μ H w v x) : x = keyV kt ns ∧ KeyOk kt ns := by
  cases kt with
  | one k =>
    cases v <;> simp only [keyA] at h <;> try cases h
    rename_i k' n
    split at h
    · rename_i hk; subst hk
      injection h with h; subst h
      cases hx; exact ⟨rfl, rfl⟩
    · cases h
  | arr m k =>
    cases v <;> simp only [keyA] at h <;> try cases h
    rename_i cs
    split at h
    · rename_i hm
      have hcs := intsA_ok h
      subst hcs
      cases hx with
      | agg _ cv hs hv =>
        refine ⟨?_, by simpa [KeyOk] using hm⟩
        show Value.agg cv = .agg _
        congr 1
        apply Array.ext
        · simpa using hs
        · intro i h1 h2
          have h3 : i < (ns.map (AV.int k)).length := by simpa using h2
          have := hv i h3 h1
          simp only [List.getElem_map] at this
          simp only [List.getElem_toArray, List.getElem_map]
          generalize cv[i] = x at this ⊢
          cases this; rfl
    · cases h
theorem keyV_inj {kt : KeyT} {a b : List Int} (ha : KeyOk kt a) (hb : KeyOk kt b) (h : keyV kt a = keyV kt b) : a = b := by
  cases kt with
  | one k =>
    match a, b, ha, hb with
    | [x], [y], _, _ => simp only [keyV] at h; injection h with _ h; rw [h]
  | arr m k =>
    simp only [keyV] at h
    injection h with h
    have := congrArg Array.toList h
    simp only at this
    exact (List.map_inj_right (fun x y e => by injection e)).1 this

/-! #### are two keys the same? -/
theorem run_eqItems_ints {e : TypeId} {k : IntKind} (he : P.underlying e = some (.int k)) (hA : isAggP P e = some false) (d : Nat) (xs ys : List Int) (hl : xs.length = ys.length) :
    ∀ (is : List Nat), (∀ i ∈ is, i < xs.length) → (Op.eqItems (d + 1) e 1 (xs.map (Value.int k)).toArray (ys.map (Value.int k)).toArray is).run P w = .ok (is.all fun i => xs[i]? == ys[i]?) w
  | [], _ => by simp [Op.eqItems]
  | i :: is, hi => by
    have h1 : i < xs.length := hi i (by simp)
    have hx : (part e (xs.map (Value.int k)).toArray (i * 1)).run P w = .ok (.int k xs[i]) w := by
      simp [part, run_isAgg hA, h1]
    have hy : (part e (ys.map (Value.int k)).toArray (i * 1)).run P w = .ok (.int k (ys[i]'(by omega))) w := by
      simp [part, run_isAgg hA, show i < ys.length by omega]
    simp only [Op.eqItems, Sem.run_bind, hx, hy, Result.andThen_ok, run_equalIn_int w d e k k _ _ he]
    have e1 : (xs[i]? == ys[i]?) = (xs[i] == ys[i]'(by omega)) := by
      rw [List.getElem?_eq_getElem h1, List.getElem?_eq_getElem (by omega)]; simp
    have ih := run_eqItems_ints he hA d xs ys hl is fun j hj => hi j (by simp [hj])
    simp only [List.all_cons, e1]
    cases hq : (xs[i] == ys[i]'(by omega)) with
    | true => simp [ih]
    | false => simp
theorem eq_of_all {xs ys : List Int} (hl : xs.length = ys.length) : ((List.range xs.length).all fun i => xs[i]? == ys[i]?) = decide (xs = ys) := by
  by_cases h : xs = ys
  · subst h; simp
  · rw [decide_eq_false h]
    rw [List.all_eq_false]
    refine Classical.byContradiction fun hn => h ?_
    apply List.ext_getElem? 
    intro i
    by_cases hi : i < xs.length
    · refine Classical.byContradiction fun hne => hn ⟨i, by simpa using hi, ?_⟩
      simpa using hne
    · rw [List.getElem?_eq_none (by omega), List.getElem?_eq_none (by omega)]
theorem keyP_cases {t : TypeId} {kt : KeyT} (h : keyP P t = some kt) : (∃ k, kt = .one k ∧ P.underlying t = some (.int k)) ∨ ∃ n e k, kt = .arr n k ∧ P.underlying t = some (.array n e) ∧ P.underlying e = some (.int k) ∧ isAggP P e = some false ∧ P.cellsOf e = 1 := by
  unfold keyP at h
  split at h
  · rename_i k hk; injection h with h; subst h; exact .inl ⟨k, rfl, hk⟩
  · rename_i n e hu
    split at h
    · rename_i k he
      split at h
      · rename_i hc; injection h with h; subst h; exact .inr ⟨n, e, k, rfl, hu, he, hc.1, hc.2⟩
      · cases h
    · cases h
  · cases h
theorem run_equal_key {t : TypeId} {kt : KeyT} (h : keyP P t = some kt) {a b : List Int} (ha : KeyOk kt a) (hb : KeyOk kt b) : (Op.equal t (keyV kt a) (keyV kt b)).run P w = .ok (decide (a = b)) w := by
  rcases keyP_cases h with ⟨k, rfl, hu⟩ | ⟨n, e, k, rfl, hu, he, hA, hc⟩
  · match a, b, ha, hb with
    | [x], [y], _, _ =>
      show (Op.equalIn 10000 t _ _).run P w = _
      rw [show (10000 : Nat) = 9999 + 1 from rfl]
      simp only [keyV]
      rw [run_equalIn_int w 9999 t k k x y hu]
      by_cases hxy : x = y
      · subst hxy; simp
      · simp [hxy]
  · obtain ⟨i, hi⟩ := info_of_underlying he
    show (Op.equalIn 10000 t _ _).run P w = _
    rw [show (10000 : Nat) = 9999 + 1 from rfl]
    have ha : a.length = n := ha
    have hb : b.length = n := hb
    simp only [keyV]
    rw [run_equalIn_array w 9999 _ _ hu hi, hc, show (9999 : Nat) = 9998 + 1 from rfl, run_eqItems_ints he hA 9998 a b (by omega) _ (fun j hj => by rw [ha]; simpa using hj)]
    rw [← ha, eq_of_all (by omega)]
theorem check_int {e : TypeId} {k : IntKind} (he : P.underlying e = some (.int k)) (em : Bool) (d : Nat) (x : Int) : (Instr.checkKey em (d + 1) e (.int k x)).run P w = .ok () w := by
  simp [Instr.checkKey, run_underlying he]
theorem check_arr {t e : TypeId} {n : Nat} {k : IntKind} {i : TypeInfo} (hu : P.underlying t = some (.array n e)) (he : P.underlying e = some (.int k)) (hA : isAggP P e = some false) (hi : P.info? e = some i) (hc : P.cellsOf e = 1) (em : Bool) (d : Nat) (a : List Int) (ha : a.length = n) :
    (Instr.checkKey em (d + 2) t (.agg (a.map (Value.int k)).toArray)).run P w = .ok () w := by
  rw [Instr.checkKey]
  simp only [Sem.run_bind, run_underlying hu, Result.andThen_ok]
  simp only [Std.Legacy.Range.forIn_eq_forIn_range', Std.Legacy.Range.size, Nat.sub_zero, Nat.add_one_sub_one, Nat.div_one]
  have key : ∀ (is : List Nat), (∀ j ∈ is, j < a.length) → (forIn is PUnit.unit (fun j (r : PUnit) => do
      Instr.checkKey em (d + 1) e (← part e (a.map (Value.int k)).toArray (j * (← sizeOf e)))
      pure (ForInStep.yield PUnit.unit) : Nat → PUnit → Sem (ForInStep PUnit))).run P w = .ok PUnit.unit w := by
    intro is
    induction is with
    | nil => intro _; simp
    | cons j is ih =>
      intro hj
      have h1 : j < a.length := hj j (by simp)
      have hx : (part e (a.map (Value.int k)).toArray (j * 1)).run P w = .ok (.int k a[j]) w := by
        simp [part, run_isAgg hA, h1]
      have hck := check_int (w := w) he em d a[j]
      simp only [List.forIn_cons, Sem.run_bind, _root_.Go.run_sizeOf w hi, Result.andThen_ok, hc, hx, hck, Sem.run_pure]
      exact ih fun m hm => hj m (by simp [hm])
  have := key (List.range' 0 n) (fun j hj => by rw [ha]; simp [List.mem_range'] at hj; omega)
  have this' := congrArg (fun r => Result.andThen r fun (_ : PUnit) w' => Result.ok () w') this
  simpa using this'
theorem run_check_key {t : TypeId} {kt : KeyT} (h : keyP P t = some kt) {a : List Int} (ha : KeyOk kt a) (em : Bool) : (Instr.checkKey em 10000 t (keyV kt a)).run P w = .ok () w := by
  rcases keyP_cases h with ⟨k, rfl, hu⟩ | ⟨n, e, k, rfl, hu, he, hA, hc⟩
  · match a, ha with
    | [x], _ => exact check_int hu em 9999 x
  · obtain ⟨i, hi⟩ := info_of_underlying he
    exact check_arr hu he hA hi hc em 9998 a ha

theorem get_map {r : Nat} {es : Array MapEntry} {clock : Nat} (hb : w.heap[r]? = some (.map es clock)) : (getObj r).run P w = .ok (.map es clock) w := by
  simp [getObj, Sem.run, hb]
theorem set_map {r : Nat} {es : Array MapEntry} {clock : Nat} (o : Obj) (hb : w.heap[r]? = some (.map es clock)) : (setObj r o).run P w = .ok () { w with heap := w.heap.setIfInBounds r o } := MapKept.run_setObj_map o hb
theorem find_now {kt : TypeId} {d : TypeDesc} {k : Value} {l : List MapEntry} {a : Option (Nat × Value)} (hd : P.underlying kt = some d) (h : Instr.findNow d k l 0 = some a) : (Instr.findKey kt k l).run P w = .ok a w := by
  simp [Instr.findKey, run_underlying hd, h]

/-! #### what a map holds -/
def findA (kt : KeyT) (ks : List Int) : List (AV × AV) → Nat → Option (Option (Nat × AV))
  | [], _ => some none
  | e :: r, i => match keyA kt e.1 with
    | some ks' => if ks = ks' then some (some (i, e.2)) else findA kt ks r (i + 1)
    | none => none
theorem find_ok {t : TypeId} {kt : KeyT} (h : keyP P t = some kt) {ks : List Int} (hks : KeyOk kt ks) : ∀ (es : List (AV × AV)) (ms : List MapEntry) (i : Nat), ms.length = es.length → (∀ k (h : k < es.length), ∃ e, ms[k]? = some e ∧ VR μ H w es[k].1 e.key ∧ VR μ H w es[k].2 e.val) →
    ∀ {r : Option (Nat × AV)}, findA kt ks es i = some r → ∃ r' : Option (Nat × Value), (Instr.findAsking t (keyV kt ks) ms i).run P w = .ok r' w ∧ (Instr.findNow ((P.underlying t).getD .bool) (keyV kt ks) ms i = some r' ∨ ∃ n k, kt = .arr n k) ∧
      match r, r' with
      | none, none => True
      | some (j, v), some (j', x) => j' = j ∧ VR μ H w v x ∧ i ≤ j ∧ ∃ e, ms[j - i]? = some e ∧ e.key = keyV kt ks
      | _, _ => False
  | [], ms, i, hl, hm, r, hf => by
    simp only [findA] at hf; injection hf with hf; subst hf
    have : ms = [] := by simpa using hl
    subst this
    exact ⟨none, by simp [Instr.findAsking], .inl rfl, trivial⟩
  | e :: es, ms, i, hl, hm, r, hf => by
    cases ms with
    | nil => simp at hl
    | cons m ms =>
      obtain ⟨m', e1, hk, hv⟩ := hm 0 (by simp)
      simp only [List.getElem?_cons_zero] at e1; injection e1 with e1; subst e1
      simp only [List.getElem_cons_zero] at hk hv
      simp only [findA] at hf
      cases hka : keyA kt e.1 with
      | none => rw [hka] at hf; cases hf
      | some ks' =>
        rw [hka] at hf
        simp only at hf
        obtain ⟨hmk, hok⟩ := keyA_ok hka hk
        have heq := run_equal_key (w := w) h hks hok
        have hnow : ∀ k, kt = .one k → Instr.sameNow ((P.underlying t).getD .bool) (keyV kt ks) m.key = some (decide (ks = ks')) := by
          rintro k rfl
          rcases keyP_cases h with ⟨k', e', hu⟩ | ⟨n, _, _, e', _⟩
          · injection e' with e'; subst e'
            match ks, ks', hks, hok with
            | [x], [y], _, _ =>
              rw [hmk, hu]
              simp only [keyV, Option.getD_some, Instr.sameNow, if_true]
              by_cases hxy : x = y
              · subst hxy; simp
              · simp [hxy]
          · cases e'
        split at hf
        · rename_i hkk
          injection hf with hf; subst hf; subst hkk
          refine ⟨some (i, m.val), ?_, ?_, rfl, hv, Nat.le_refl _, m, by simp, hmk⟩
          · simp only [Instr.findAsking, Sem.run_bind, hmk, heq, Result.andThen_ok]
            simp
          · cases kt with
            | one k => left; simp only [Instr.findNow, hnow k rfl, decide_true]
            | arr n k => exact .inr ⟨n, k, rfl⟩
        · rename_i hkk
          obtain ⟨r', q1, q2, q3⟩ := find_ok h hks es ms (i + 1) (by simpa using hl) (fun k hk => by
            obtain ⟨e', x1, x2⟩ := hm (k + 1) (by simpa using hk)
            exact ⟨e', by simpa using x1, by simpa using x2⟩) hf
          refine ⟨r', ?_, ?_, ?_⟩
          · simp only [Instr.findAsking, Sem.run_bind, hmk, heq, Result.andThen_ok, decide_eq_false hkk, Bool.false_eq_true, if_false]
            exact q1
          · cases kt with
            | one k =>
              left
              rcases q2 with q2 | ⟨_, _, q2⟩
              · simp only [Instr.findNow, hnow k rfl, decide_eq_false hkk]; exact q2
              · cases q2
            | arr n k => exact .inr ⟨n, k, rfl⟩
          · match r, r', q3 with
            | none, none, _ => trivial
            | some (j, v), some (j', x), ⟨a1, a2, a3, e', a4, a5⟩ =>
              refine ⟨a1, a2, by omega, e', ?_, a5⟩
              rw [show j - i = (j - (i + 1)) + 1 by omega, List.getElem?_cons_succ]; exact a4
            | none, some _, q => exact q
            | some _, none, q => exact q
theorem findKey_ok {t : TypeId} {kt : KeyT} (h : keyP P t = some kt) {ks : List Int} (hks : KeyOk kt ks) (es : List (AV × AV)) (ms : List MapEntry) (hl : ms.length = es.length) (hm : ∀ k (h : k < es.length), ∃ e, ms[k]? = some e ∧ VR μ H w es[k].1 e.key ∧ VR μ H w es[k].2 e.val)
    {r : Option (Nat × AV)} (hf : findA kt ks es 0 = some r) : ∃ r' : Option (Nat × Value), (Instr.findKey t (keyV kt ks) ms).run P w = .ok r' w ∧
      match r, r' with
      | none, none => True
      | some (j, v), some (j', x) => j' = j ∧ VR μ H w v x ∧ ∃ e, ms[j]? = some e ∧ e.key = keyV kt ks
      | _, _ => False := by
  obtain ⟨r', q1, q2, q3⟩ := find_ok h hks es ms 0 hl hm hf
  refine ⟨r', ?_, ?_⟩
  · rcases keyP_cases h with ⟨k, rfl, hu⟩ | ⟨n, e, k, rfl, hu, _⟩
    · rcases q2 with q2 | ⟨_, _, q2⟩
      · rw [hu] at q2
        exact find_now hu q2
      · cases q2
    · rw [run_findKey_eq w (by rw [hu])]; exact q1
  · match r, r', q3 with
    | none, none, _ => trivial
    | some (j, v), some (j', x), ⟨a1, a2, a3, e', a4, a5⟩ => exact ⟨a1, a2, e', by simpa using a4, a5⟩
    | none, some _, q => exact q
    | some _, none, q => exact q

/-! #### steps -/
theorem Sim.newMap (s : Sim B μ H w) : Sim B (put μ H.length ⟨w.heap.size, 0⟩) (H ++ [.map []]) (w.alloc (.map #[] 0)) := by
  have E := Ext.new s (.map #[] 0) (.map []) 0
  have hlt : ∀ i, i < H.length → (μ i).b < w.heap.size := fun i hi => s.own_lt ⟨i, hi, rfl⟩
  refine ⟨fun i j hi hj e => ?_, fun i hi => ?_, Nat.le_trans s.le E.size, fun i t g cs hi => ?_, fun i es hi => ?_⟩
  · simp at hi hj
    by_cases h1 : i = H.length <;> by_cases h2 : j = H.length
    · omega
    · subst h1; rw [put_same, put_other _ _ h2] at e; have := hlt j (by omega); simp at e; omega
    · subst h2; rw [put_same, put_other _ _ h1] at e; have := hlt i (by omega); simp at e; omega
    · rw [put_other _ _ h1, put_other _ _ h2] at e; exact s.inj i j (by omega) (by omega) e
  · simp at hi
    by_cases h1 : i = H.length
    · subst h1; rw [put_same]; exact s.le
    · rw [put_other _ _ h1]; exact s.ge i (by omega)
  · by_cases h1 : i = H.length
    · subst h1; simp at hi
    · have hlt' : i < H.length := by have := (List.getElem?_eq_some_iff.1 hi).1; simp at this; omega
      rw [List.getElem?_append_left hlt'] at hi
      obtain ⟨arr, fz, a1, a2, a3, a4, a5, a6⟩ := s.cells i t g cs hi
      rw [put_other _ _ h1]
      refine ⟨arr, fz, (heap_alloc_old w _ (hlt i hlt')).trans a1, a2, a3, a4, a5, fun k hk => ?_⟩
      obtain ⟨u, u1, u2, u3⟩ := a6 k hk
      exact ⟨u, u1, u2, u3.mono E⟩
  · by_cases h1 : i = H.length
    · subst h1
      simp at hi; subst hi
      rw [put_same]
      exact ⟨#[], 0, heap_alloc_new w _, rfl, fun k hk => by simp at hk⟩
    · have hlt' : i < H.length := by have := (List.getElem?_eq_some_iff.1 hi).1; simp at this; omega
      rw [List.getElem?_append_left hlt'] at hi
      obtain ⟨en, clk, a1, a2, a3⟩ := s.maps i es hi
      rw [put_other _ _ h1]
      refine ⟨en, clk, (heap_alloc_old w _ (hlt i hlt')).trans a1, a2, fun k hk => ?_⟩
      obtain ⟨e, e1, e2, e3⟩ := a3 k hk
      exact ⟨e, e1, e2.mono E, e3.mono E⟩
theorem st_mkmap (s : Sim B μ H w) (t : TypeId) : StepV P B μ H w (Instr.makeMap t none) (.map H.length) (H ++ [.map []]) := by
  refine ⟨.map (some w.heap.size), put μ H.length ⟨w.heap.size, 0⟩, w.alloc (.map #[] 0), ?_, s.newMap, Ext.new s _ _ _, ?_⟩
  · simp [Instr.makeMap]
  · refine .map _ _ (by simp) fun _ => by rw [put_same]
/-- A map is written. -/
theorem Ext.setMap (s : Sim B μ H w) {i : Nat} {es es' : List (AV × AV)} (hi : H[i]? = some (.map es)) (o : Obj) : Ext μ H w μ (H.set i (.map es')) { w with heap := w.heap.setIfInBounds (μ i).b o } where
  os := rfl
  tape := rfl
  output := rfl
  size := by simp
  keep b hb ho := by
    have hne : (μ i).b ≠ b := fun e => ho ⟨i, (List.getElem?_eq_some_iff.1 hi).1, e⟩
    exact ⟨by simp [Array.getElem?_setIfInBounds_ne hne], fun h' => ho (own_set.1 h')⟩
  len := by simp
  obj j hj := by
    rw [totAt_set _ (List.getElem?_eq_some_iff.1 hi).1]
    by_cases h : j = i
    · subst h; rw [if_pos rfl, totAt_of hi]; exact .inr ⟨rfl, rfl⟩
    · rw [if_neg h]; exact .inr ⟨rfl, rfl⟩
theorem Sim.setMap (s : Sim B μ H w) {i : Nat} {es es' : List (AV × AV)} (hi : H[i]? = some (.map es)) (en : Array MapEntry) (clk : Nat) (hl : en.size = es'.length) (hv : ∀ k (h : k < es'.length), ∃ e, en[k]? = some e ∧ VR μ H w es'[k].1 e.key ∧ VR μ H w es'[k].2 e.val) :
    Sim B μ (H.set i (.map es')) { w with heap := w.heap.setIfInBounds (μ i).b (.map en clk) } := by
  have E := Ext.setMap (es' := es') s hi (.map en clk)
  have hil := (List.getElem?_eq_some_iff.1 hi).1
  have hb : (μ i).b < w.heap.size := s.own_lt ⟨i, hil, rfl⟩
  refine ⟨fun a b ha hb => s.inj a b (by simpa using ha) (by simpa using hb), fun a ha => s.ge a (by simpa using ha), Nat.le_trans s.le E.size, fun j t g cs hj => ?_, fun j fs hj => ?_⟩
  · have hji : j ≠ i := by rintro rfl; rw [List.getElem?_set_self hil] at hj; simp at hj
    rw [List.getElem?_set_ne (by omega)] at hj
    obtain ⟨arr, fz, b1, b2, b3, b4, b5, b6⟩ := s.cells j t g cs hj
    have hne : (μ i).b ≠ (μ j).b := fun e => hji (s.inj i j hil (List.getElem?_eq_some_iff.1 hj).1 e).symm
    refine ⟨arr, fz, by simp only [Array.getElem?_setIfInBounds_ne hne]; exact b1, b2, b3, b4, b5, fun k hk => ?_⟩
    obtain ⟨u, u1, u2, u3⟩ := b6 k hk
    exact ⟨u, u1, u2, u3.mono E⟩
  · by_cases hji : j = i
    · subst hji
      rw [List.getElem?_set_self hil] at hj
      injection hj with hj; injection hj with hj; subst hj
      refine ⟨en, clk, by simp [Array.getElem?_setIfInBounds_self_of_lt hb], hl, fun k hk => ?_⟩
      obtain ⟨e, e1, e2, e3⟩ := hv k hk
      exact ⟨e, e1, e2.mono E, e3.mono E⟩
    · rw [List.getElem?_set_ne (by omega)] at hj
      obtain ⟨en', clk', b1, b2, b3⟩ := s.maps j fs hj
      have hne : (μ i).b ≠ (μ j).b := fun e => hji (s.inj i j hil (List.getElem?_eq_some_iff.1 hj).1 e).symm
      refine ⟨en', clk', by simp only [Array.getElem?_setIfInBounds_ne hne]; exact b1, b2, fun k hk => ?_⟩
      obtain ⟨e, e1, e2, e3⟩ := b3 k hk
      exact ⟨e, e1, e2.mono E, e3.mono E⟩
/-- What a map answers. -/
def lookA (H : Heap) (kt : KeyT) (m x : AV) : Option (Option AV) := match keyA kt x with
  | some ks => match m with
    | .nilm => some none
    | .map id => match H[id]? with
      | some (.map es) => match findA kt ks es 0 with
        | some (some (_, v)) => some (some v)
        | some none => some none
        | none => none
      | _ => none
    | _ => none
  | none => none
def lookR (z : AV) (ok : Bool) (r : Option (Option AV)) : Option AV := match r with
  | some (some v) => some (if ok then .tup [v, .bool true] else v)
  | some none => some (if ok then .tup [z, .bool false] else z)
  | none => none
/-- A zero of one cell. -/
def zero1P (P : Program) (t : TypeId) : Option AV := ((P.info? t).bind (·.zero)).bind c1
theorem run_zero1 {t : TypeId} {x : AV} (h : zero1P P t = some x) : ∃ z, (∀ W, (zeroValue t).run P W = .ok z W) ∧ ∀ μ H w, VR μ H w x z := by
  unfold zero1P at h
  cases hi : P.info? t with
  | none => rw [hi] at h; simp at h
  | some i =>
    rw [hi] at h
    simp only [Option.bind_some] at h
    cases hz : i.zero with
    | none => rw [hz] at h; simp at h
    | some z =>
      rw [hz] at h
      simp only [Option.bind_some] at h
      exact ⟨z, fun W => by simp [zeroValue, typeInfo, hi, hz], fun μ H w => (c1_ok h).1⟩
theorem VR.pair {v : AV} {x : Value} (h : VR μ H w v x) (b : Bool) : VR μ H w (.tup [v, .bool b]) (.tuple #[x, .bool b]) := by
  refine .tup _ _ rfl fun i h1 h2 => ?_
  match i, h1 with
  | 0, _ => exact h
  | 1, _ => exact .bool b
theorem st_look (s : Sim B μ H w) {m x v : AV} {mv xv : Value} (hm : VR μ H w m mv) (hx : VR μ H w x xv) {t k e : TypeId} (hu : P.underlying t = some (.map k e)) {kt : KeyT} (hk : keyP P k = some kt) {z : AV} (hz : zero1P P e = some z) {ok : Bool}
    (h : lookR z ok (lookA H kt m x) = some v) : StepV P B μ H w (Instr.lookup t mv xv ok) v H := by
  unfold lookA at h
  cases hka : keyA kt x with
  | none => rw [hka] at h; cases h
  | some ks =>
    rw [hka] at h
    obtain ⟨rfl, hko⟩ := keyA_ok hka hx
    obtain ⟨zv, z1, z2⟩ := run_zero1 hz
    cases m
    case nilm =>
      cases hm
      simp only [lookR] at h; injection h with h; subst h
      refine StepV.pure s (r := if ok then .tuple #[zv, .bool false] else zv) ?_ ?_
      · have hf : (Instr.findKey k (keyV kt ks) []).run P w = .ok none w := by
          rcases keyP_cases hk with ⟨q, rfl, hq⟩ | ⟨n, e', q, rfl, hq, _⟩ <;> simp [Instr.findKey, run_underlying hq, Instr.findNow]
        simp only [Instr.lookup, Sem.run_bind, run_underlying hu, Result.andThen_ok, Sem.run_pure, run_check_key hk hko, hf, z1]
      · cases ok
        · exact z2 _ _ _
        · exact (z2 _ _ _).pair false
    case map id =>
      cases hm with
      | map _ r hid hr =>
        simp only at h
        cases ho : H[id]? with
        | none => rw [ho] at h; cases h
        | some o =>
          cases o with
          | cells t g cs => rw [ho] at h; cases h
          | map es =>
            rw [ho] at h
            simp only at h
            have ht : totAt H id = 0 := totAt_of ho
            have hrr := hr ht
            subst hrr
            obtain ⟨en, clk, a1, a2, a3⟩ := s.maps id es ho
            have hm' : ∀ k (h : k < es.length), ∃ e, en.toList[k]? = some e ∧ VR μ H w es[k].1 e.key ∧ VR μ H w es[k].2 e.val := fun k hk => by
              obtain ⟨e, e1, e2⟩ := a3 k hk; exact ⟨e, by simpa using e1, e2⟩
            cases hf : findA kt ks es 0 with
            | none => rw [hf] at h; cases h
            | some r =>
              rw [hf] at h
              obtain ⟨r', q1, q2⟩ := findKey_ok hk hko es en.toList (by simpa using a2) hm' hf
              cases r with
              | none =>
                simp only [lookR] at h; injection h with h; subst h
                cases r' with
                | some _ => exact q2.elim
                | none =>
                  refine StepV.pure s (r := if ok then .tuple #[zv, .bool false] else zv) ?_ ?_
                  · simp only [Instr.lookup, Sem.run_bind, run_underlying hu, get_map a1, Result.andThen_ok, Sem.run_pure, run_check_key hk hko, q1, z1]
                  · cases ok
                    · exact z2 _ _ _
                    · exact (z2 _ _ _).pair false
              | some p =>
                obtain ⟨j, v0⟩ := p
                simp only [lookR] at h; injection h with h; subst h
                cases r' with
                | none => exact q2.elim
                | some p' =>
                  obtain ⟨j', x0⟩ := p'
                  obtain ⟨_, hv, _⟩ := q2
                  refine StepV.pure s (r := if ok then .tuple #[x0, .bool true] else x0) ?_ ?_
                  · simp only [Instr.lookup, Sem.run_bind, run_underlying hu, get_map a1, Result.andThen_ok, Sem.run_pure, run_check_key hk hko, q1]
                  · cases ok
                    · exact hv
                    · exact hv.pair true
    all_goals exact absurd h (by simp [lookR])
/-- A map with an entry written. -/
def msetA (H : Heap) (kt : KeyT) (m x v : AV) : Option (AV × Heap) := match keyA kt x with
  | some ks => match m with
    | .map id => match H[id]? with
      | some (.map es) => match findA kt ks es 0 with
        | some (some (i, _)) => some (.undef, H.set id (.map (es.set i (x, v))))
        | some none => some (.undef, H.set id (.map (es ++ [(x, v)])))
        | none => none
      | _ => none
    | _ => none
  | none => none
theorem sameBits_key (kt : KeyT) (ks : List Int) (hk : KeyOk kt ks) : Instr.sameBits 10000 (keyV kt ks) (keyV kt ks) = true := by
  cases kt with
  | one k =>
    match ks, hk with
    | [x], _ => simp [keyV, Instr.sameBits]
  | arr n k =>
    show Instr.sameBits (9999 + 1) _ _ = true
    simp only [keyV, Instr.sameBits, beq_self_eq_true, Bool.true_and]
    rw [List.all_eq_true]
    intro p hp
    have : p.1 = p.2 ∧ ∃ n, p.1 = Value.int k n := by
      obtain ⟨i, hi, e⟩ := List.getElem_of_mem hp
      simp only [List.getElem_zip] at e
      rw [← e]
      exact ⟨rfl, by simp⟩
    obtain ⟨h1, n', h2⟩ := this
    rw [← h1, h2]
    simp [Instr.sameBits]
theorem st_mset (s : Sim B μ H w) {m x v : AV} {mv xv vv : Value} (hm : VR μ H w m mv) (hx : VR μ H w x xv) (hv : VR μ H w v vv) {t k e : TypeId} (hu : P.underlying t = some (.map k e)) {kt : KeyT} (hk : keyP P k = some kt) {r : AV} {H' : Heap}
    (h : msetA H kt m x v = some (r, H')) : r = .undef ∧ StepU P B μ H w (Instr.mapUpdate t mv xv vv) H' := by
  unfold msetA at h
  cases hka : keyA kt x with
  | none => rw [hka] at h; cases h
  | some ks =>
    rw [hka] at h
    have hx0 := hx
    obtain ⟨rfl, hko⟩ := keyA_ok hka hx
    cases m <;> try cases h
    rename_i id
    cases hm with
    | map _ r hid hr =>
      try simp only at h
      cases ho : H[id]? with
      | none => rw [ho] at h; cases h
      | some o =>
        cases o with
        | cells t g cs => rw [ho] at h; cases h
        | map es =>
          rw [ho] at h
          try simp only at h
          have ht : totAt H id = 0 := totAt_of ho
          have hrr := hr ht
          subst hrr
          obtain ⟨en, clk, a1, a2, a3⟩ := s.maps id es ho
          have hm' : ∀ k (h : k < es.length), ∃ e, en.toList[k]? = some e ∧ VR μ H w es[k].1 e.key ∧ VR μ H w es[k].2 e.val := fun k hk => by
            obtain ⟨e, e1, e2⟩ := a3 k hk; exact ⟨e, by simpa using e1, e2⟩
          cases hf : findA kt ks es 0 with
          | none => rw [hf] at h; cases h
          | some r =>
            rw [hf] at h
            obtain ⟨r', q1, q2⟩ := findKey_ok hk hko es en.toList (by simpa using a2) hm' hf
            cases r with
            | none =>
              try simp only at h
              injection h with h; injection h with h1 h2; subst h1 h2
              cases r' with
              | some _ => exact q2.elim
              | none =>
                refine ⟨rfl, μ, _, ?_, s.setMap ho (en.push { key := keyV kt ks, val := vv, born := clk }) (clk + 1) (by simp [a2]) (fun j hj => ?_), Ext.setMap s ho _⟩
                · simp only [Instr.mapUpdate, Sem.run_bind, run_underlying hu, get_map a1, Result.andThen_ok, run_check_key hk hko, q1, set_map _ a1]
                · by_cases hj' : j < es.length
                  · obtain ⟨e, e1, e2, e3⟩ := a3 j hj'
                    refine ⟨e, ?_, ?_, ?_⟩
                    · rw [Array.getElem?_push_lt (by omega)]
                      have := Array.getElem?_eq_some_iff.1 e1
                      obtain ⟨_, e1'⟩ := this
                      rw [e1']
                    · rw [List.getElem_append_left hj']; exact e2
                    · rw [List.getElem_append_left hj']; exact e3
                  · have hje : j = es.length := by simp at hj; omega
                    subst hje
                    refine ⟨{ key := keyV kt ks, val := vv, born := clk }, by rw [← a2]; simp, ?_, ?_⟩
                    · rw [List.getElem_append_right (Nat.le_refl _)]; simpa using hx0
                    · rw [List.getElem_append_right (Nat.le_refl _)]; simpa using hv
            | some p =>
              obtain ⟨i, v0⟩ := p
              try simp only at h
              injection h with h; injection h with h1 h2; subst h1 h2
              cases r' with
              | none => exact q2.elim
              | some p' =>
                obtain ⟨j', x0⟩ := p'
                obtain ⟨rfl, _, e, e1, e2⟩ := q2
                have he : en[j']? = some e := by simpa using e1
                refine ⟨rfl, μ, _, ?_, s.setMap ho (en.modify j' fun e => { e with key := keyV kt ks, val := vv }) clk (by simp [a2]) (fun j hj => ?_), Ext.setMap s ho _⟩
                · have hkeep : (Instr.keyThatStays (((en[j']?).map (·.key)).getD (keyV kt ks)) (keyV kt ks)).run P w = .ok (keyV kt ks) w := by
                    rw [he]
                    simp only [Option.map_some, Option.getD_some, e2, Instr.keyThatStays, sameBits_key kt ks hko, if_true, Sem.run_pure]
                  simp only [Instr.mapUpdate, Sem.run_bind, run_underlying hu, get_map a1, Result.andThen_ok, run_check_key hk hko, q1, hkeep, set_map _ a1]
                · have hj' : j < es.length := by simpa using hj
                  obtain ⟨ej, f1, f2, f3⟩ := a3 j hj'
                  by_cases hji : j' = j
                  · subst hji
                    refine ⟨{ ej with key := keyV kt ks, val := vv }, by rw [Array.getElem?_modify, if_pos rfl, f1]; rfl, ?_, ?_⟩
                    · simpa using hx0
                    · simpa using hv
                  · refine ⟨ej, by rw [Array.getElem?_modify, if_neg hji]; exact f1, ?_, ?_⟩
                    · rw [List.getElem_set_ne hji]; exact f2
                    · rw [List.getElem_set_ne hji]; exact f3
end
end Go.Proofs.Ah

