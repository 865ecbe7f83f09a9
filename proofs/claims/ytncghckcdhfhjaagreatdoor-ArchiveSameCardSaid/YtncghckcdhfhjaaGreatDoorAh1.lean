/- An abstract memory for proofs over the model: values without addresses, lists that nobody writes any more, objects that the walk owns; how they stand to the model's values and worlds. -/
import Derived.WalkKit
import Derived.Deep.Draws
import Derived.Laws.BytesString
import Derived.Lib.ConvBytes
import Derived.ArgAppend
import Derived.WalkLawsBesides
set_option linter.unusedVariables false
set_option linter.unusedSimpArgs false
namespace Go.Proofs.Ah
open Go

/-- Abstract values. 'ptr': into an owned object of so many cells; 'pim': into memory that nobody writes; 'slc': a slice of an owned object (cells from 'off'; 'len' elements of 'sz' cells); 'lst': a slice of memory that nobody writes ('full': no room behind). 'undef': whatever. -/
inductive AV where
  | int (k : IntKind) (n : Int)
  | bool (b : Bool)
  | str (s : ByteArray)
  | nilp
  | ptr (id tot idx : Nat)
  | pim (cs : List AV) (k : Nat)
  | nils
  | slc (id tot off len sz : Nat)
  | lst (n sz : Nat) (full : Bool) (cs : List AV)
  | nilf
  | fn (f : FuncId) (cap : List AV)
  | nilm
  | map (id : Nat)
  | agg (cs : List AV)
  | tup (vs : List AV)
  | undef
deriving Inhabited

def AV.cells : AV → List AV
  | .agg cs => cs
  | v => [v]
/-- One cell's value. -/
def AV.one : AV → Bool
  | .agg _ | .tup _ | .undef => false
  | _ => true

inductive AObj where
  | cells (t : TypeId) (grow : Bool) (cs : List AV)
  | map (es : List (AV × AV))
deriving Inhabited
def AObj.tot : AObj → Nat
  | .cells _ _ cs => cs.length
  | .map _ => 0

/-- Where an object lies: its block, how many cells the block has. -/
structure Pl where
  b : Nat
  sz : Nat

abbrev Heap := List AObj
def totAt (H : Heap) (i : Nat) : Nat := ((H[i]?).map AObj.tot).getD 0
def own (μ : Nat → Pl) (H : Heap) (b : Nat) : Prop := ∃ i, i < H.length ∧ (μ i).b = b

/-- Abstract and true values, in a memory. -/
inductive VR (μ : Nat → Pl) (H : Heap) (w : World) : AV → Value → Prop
  | int (k n) : VR μ H w (.int k n) (.int k n)
  | bool (b) : VR μ H w (.bool b) (.bool b)
  | str (s) : VR μ H w (.str s) (.string s)
  | nilp : VR μ H w .nilp (.pointer none)
  | ptr (id tot idx : Nat) (a : Addr) (hid : id < H.length) (hle : tot ≤ totAt H id) (h : totAt H id = tot → a = ⟨(μ id).b, idx, none⟩) : VR μ H w (.ptr id tot idx) (.pointer (some a))
  | pim (cs : List AV) (k b o : Nat) (u : Nat → Value) (hc : ∀ i, i < cs.length → w.cell? ⟨b, o + i, none⟩ = some (u i)) (h1 : ∀ i, i < cs.length → (u i).oneCell' = true)
      (hv : ∀ i (h : i < cs.length), VR μ H w cs[i] (u i)) (hown : ¬ own μ H b) (hb : b < w.heap.size) : VR μ H w (.pim cs k) (.pointer (some ⟨b, o + k, none⟩))
  | nils : VR μ H w .nils (.slice none 0 0)
  | slc (id tot off len sz : Nat) (a : Option Addr) (c : Nat) (hid : id < H.length) (hle : tot ≤ totAt H id) (hlc : len ≤ c)
      (h : totAt H id = tot → c ≠ 0 → a = some ⟨(μ id).b, off, none⟩ ∧ off + c * sz ≤ (μ id).sz) : VR μ H w (.slc id tot off len sz) (.slice a len c)
  | lst0 (sz : Nat) (full : Bool) (a : Option Addr) (c : Nat) (hf : full = true → c = 0) : VR μ H w (.lst 0 sz full []) (.slice a 0 c)
  | lst (n sz : Nat) (full : Bool) (cs : List AV) (b o c : Nat) (u : Nat → Value) (hn : 0 < n) (hl : cs.length = n * sz) (hlc : n ≤ c) (hf : full = true → c = n)
      (hc : ∀ i, i < cs.length → w.cell? ⟨b, o + i, none⟩ = some (u i)) (h1 : ∀ i, i < cs.length → (u i).oneCell' = true)
      (hv : ∀ i (h : i < cs.length), VR μ H w cs[i] (u i)) (hown : ¬ own μ H b) (hb : b < w.heap.size) : VR μ H w (.lst n sz full cs) (.slice (some ⟨b, o, none⟩) n c)
  | nilf : VR μ H w .nilf .nilFunc
  | fn (f : FuncId) (cap : List AV) (cv : Array Value) (hs : cv.size = cap.length) (hv : ∀ i (h : i < cap.length) (h' : i < cv.size), VR μ H w cap[i] cv[i]) : VR μ H w (.fn f cap) (.func (.func f) #[] cv)
  | nilm : VR μ H w .nilm (.map none)
  | map (id r : Nat) (hid : id < H.length) (h : totAt H id = 0 → r = (μ id).b) : VR μ H w (.map id) (.map (some r))
  | agg (cs : List AV) (cv : Array Value) (hs : cv.size = cs.length) (hv : ∀ i (h : i < cs.length) (h' : i < cv.size), VR μ H w cs[i] cv[i]) : VR μ H w (.agg cs) (.agg cv)
  | tup (cs : List AV) (cv : Array Value) (hs : cv.size = cs.length) (hv : ∀ i (h : i < cs.length) (h' : i < cv.size), VR μ H w cs[i] cv[i]) : VR μ H w (.tup cs) (.tuple cv)
  | undef (v) : VR μ H w .undef v

/-- The owned objects, as they lie in the world; all blocks from B on. -/
structure Sim (B : Nat) (μ : Nat → Pl) (H : Heap) (w : World) : Prop where
  inj : ∀ i j, i < H.length → j < H.length → (μ i).b = (μ j).b → i = j
  ge : ∀ i, i < H.length → B ≤ (μ i).b
  le : B ≤ w.heap.size
  cells : ∀ i t g cs, H[i]? = some (.cells t g cs) → ∃ arr fz, w.heap[(μ i).b]? = some (.cells arr t fz) ∧ arr.size = (μ i).sz ∧ (∀ k, k < arr.size → ¬ (fz.1 ≤ k ∧ k < fz.2)) ∧ cs.length ≤ arr.size ∧
    (g = false → cs.length = arr.size) ∧ ∀ k (h : k < cs.length), ∃ u, arr[k]? = some u ∧ u.oneCell' = true ∧ VR μ H w cs[k] u
  maps : ∀ i es, H[i]? = some (.map es) → ∃ en clk, w.heap[(μ i).b]? = some (.map en clk) ∧ en.size = es.length ∧ ∀ k (h : k < es.length), ∃ e, en[k]? = some e ∧ VR μ H w es[k].1 e.key ∧ VR μ H w es[k].2 e.val

/-- From one memory to a later one: what nobody owns stays; an object has more cells than it had, or lies where it lay. -/
structure Ext (μ : Nat → Pl) (H : Heap) (w : World) (μ' : Nat → Pl) (H' : Heap) (w' : World) : Prop where
  os : w'.os = w.os
  tape : w'.tape = w.tape
  output : w'.output = w.output
  size : w.heap.size ≤ w'.heap.size
  keep : ∀ b, b < w.heap.size → ¬ own μ H b → w'.heap[b]? = w.heap[b]? ∧ ¬ own μ' H' b
  len : H.length ≤ H'.length
  obj : ∀ i, i < H.length → totAt H i < totAt H' i ∨ (totAt H' i = totAt H i ∧ μ' i = μ i)

theorem Ext.refl (μ H w) : Ext μ H w μ H w := ⟨rfl, rfl, rfl, Nat.le_refl _, fun _ _ h => ⟨rfl, h⟩, Nat.le_refl _, fun _ _ => .inr ⟨rfl, rfl⟩⟩

theorem Ext.trans {μ H w μ1 H1 w1 μ2 H2 w2} (h : Ext μ H w μ1 H1 w1) (k : Ext μ1 H1 w1 μ2 H2 w2) : Ext μ H w μ2 H2 w2 where
  os := k.os.trans h.os
  tape := k.tape.trans h.tape
  output := k.output.trans h.output
  size := Nat.le_trans h.size k.size
  keep b hb ho := by
    obtain ⟨h1, h2⟩ := h.keep b hb ho
    obtain ⟨k1, k2⟩ := k.keep b (Nat.lt_of_lt_of_le hb h.size) h2
    exact ⟨k1.trans h1, k2⟩
  len := Nat.le_trans h.len k.len
  obj i hi := by
    rcases h.obj i hi with h1 | ⟨h1, h2⟩ <;> rcases k.obj i (Nat.lt_of_lt_of_le hi h.len) with k1 | ⟨k1, k2⟩
    · exact .inl (by omega)
    · exact .inl (by omega)
    · exact .inl (by omega)
    · exact .inr ⟨by omega, k2.trans h2⟩

theorem Ext.cell {μ H w μ' H' w'} (h : Ext μ H w μ' H' w') {b : Nat} (hb : b < w.heap.size) (ho : ¬ own μ H b) (o : Nat) : w'.cell? ⟨b, o, none⟩ = w.cell? ⟨b, o, none⟩ :=
  World.cell?_of_block (h.keep b hb ho).1


theorem totAt_le_of_ext {μ H w μ' H' w'} (h : Ext μ H w μ' H' w') {i : Nat} (hi : i < H.length) : totAt H i ≤ totAt H' i := by
  rcases h.obj i hi with h1 | ⟨h1, _⟩ <;> omega

theorem VR.mono {μ H w μ' H' w'} (h : Ext μ H w μ' H' w') {v : AV} {x : Value} (k : VR μ H w v x) : VR μ' H' w' v x := by
  induction k with
  | int => exact .int _ _
  | bool => exact .bool _
  | str => exact .str _
  | nilp => exact .nilp
  | ptr id tot idx a hid hle ha =>
    refine .ptr id tot idx a (Nat.lt_of_lt_of_le hid h.len) (Nat.le_trans hle (totAt_le_of_ext h hid)) fun ht => ?_
    rcases h.obj id hid with h1 | ⟨h1, h2⟩
    · omega
    · rw [h2]; exact ha (by omega)
  | pim cs k b o u hc h1 hv hown hb ih =>
    exact .pim cs k b o u (fun i hi => (h.cell hb hown _).trans (hc i hi)) h1 ih (h.keep b hb hown).2 (Nat.lt_of_lt_of_le hb h.size)
  | nils => exact .nils
  | slc id tot off len sz a c hid hle hlc ha =>
    refine .slc id tot off len sz a c (Nat.lt_of_lt_of_le hid h.len) (Nat.le_trans hle (totAt_le_of_ext h hid)) hlc fun ht hc => ?_
    rcases h.obj id hid with h1 | ⟨h1, h2⟩
    · omega
    · rw [h2]; exact ha (by omega) hc
  | lst0 sz full a c hf => exact .lst0 sz full a c hf
  | lst n sz full cs b o c u hn hl hlc hf hc h1 hv hown hb ih =>
    exact .lst n sz full cs b o c u hn hl hlc hf (fun i hi => (h.cell hb hown _).trans (hc i hi)) h1 ih (h.keep b hb hown).2 (Nat.lt_of_lt_of_le hb h.size)
  | nilf => exact .nilf
  | fn f cap cv hs hv ih => exact .fn f cap cv hs ih
  | nilm => exact .nilm
  | map id r hid hr =>
    refine .map id r (Nat.lt_of_lt_of_le hid h.len) fun ht => ?_
    rcases h.obj id hid with h1 | ⟨h1, h2⟩
    · omega
    · rw [h2]; exact hr (by omega)
  | agg cs cv hs hv ih => exact .agg cs cv hs ih
  | tup cs cv hs hv ih => exact .tup cs cv hs ih
  | undef v => exact .undef v

/-- A one-cell value is one cell. -/
theorem VR.one {μ H w} {v : AV} {x : Value} (k : VR μ H w v x) (h : v.one = true) : x.oneCell' = true := by
  cases k <;> first | rfl | simp [AV.one] at h

/-- The cells of a value. -/
theorem VR.cells {μ H w} {v : AV} {x : Value} (k : VR μ H w v x) (hu : v ≠ .undef) : x.cells.size = v.cells.length ∧ ∀ i (h : i < v.cells.length) (h' : i < x.cells.size), VR μ H w v.cells[i] x.cells[i] := by
  have h1 : (∃ cs cv, v = .agg cs ∧ x = .agg cv) ∨ (v.cells = [v] ∧ x.cells = #[x]) := by
    cases k <;> first | exact .inl ⟨_, _, rfl, rfl⟩ | exact .inr ⟨rfl, rfl⟩ | exact (hu rfl).elim
  rcases h1 with ⟨cs, cv, rfl, rfl⟩ | ⟨e1, e2⟩
  · cases k with
    | agg _ _ hs hv => exact ⟨hs, hv⟩
  · refine ⟨by rw [e1, e2]; rfl, fun i h h' => ?_⟩
    have h0 : i = 0 := by rw [e1] at h; simp at h; omega
    subst h0
    simp only [e1, e2, List.getElem_cons_zero, List.getElem_toArray]
    exact k

/-! #### Steps of the memory -/
section
variable {B : Nat} {μ : Nat → Pl} {H : Heap} {w : World}

theorem Sim.own_lt (s : Sim B μ H w) {b : Nat} (h : own μ H b) : b < w.heap.size := by
  obtain ⟨i, hi, rfl⟩ := h
  obtain ⟨o, ho⟩ : ∃ o, H[i]? = some o := ⟨H[i], List.getElem?_eq_getElem hi⟩
  cases o with
  | cells t g cs => obtain ⟨arr, fz, hb, _⟩ := s.cells i t g cs ho; exact (Array.getElem?_eq_some_iff.1 hb).1
  | map es => obtain ⟨en, clk, hb, _⟩ := s.maps i es ho; exact (Array.getElem?_eq_some_iff.1 hb).1

/-- A draw. -/
theorem Ext.drewN (n : Nat) : Ext μ H w μ H (w.drewN n) := ⟨rfl, rfl, rfl, Nat.le_refl _, fun _ _ h => ⟨rfl, h⟩, Nat.le_refl _, fun _ _ => .inr ⟨rfl, rfl⟩⟩

/-- The objects stay, the world goes on beside them. -/
theorem Sim.same (s : Sim B μ H w) {w' : World} (h : Ext μ H w μ H w') (hb : ∀ b, own μ H b → w'.heap[b]? = w.heap[b]?) : Sim B μ H w' where
  inj := s.inj
  ge := s.ge
  le := Nat.le_trans s.le h.size
  cells i t g cs hi := by
    obtain ⟨arr, fz, h1, h2, h3, h4, h5, h6⟩ := s.cells i t g cs hi
    refine ⟨arr, fz, (hb _ ⟨i, (List.getElem?_eq_some_iff.1 hi).1, rfl⟩).trans h1, h2, h3, h4, h5, fun k hk => ?_⟩
    obtain ⟨u, u1, u2, u3⟩ := h6 k hk
    exact ⟨u, u1, u2, u3.mono h⟩
  maps i es hi := by
    obtain ⟨en, clk, h1, h2, h3⟩ := s.maps i es hi
    refine ⟨en, clk, (hb _ ⟨i, (List.getElem?_eq_some_iff.1 hi).1, rfl⟩).trans h1, h2, fun k hk => ?_⟩
    obtain ⟨e, e1, e2, e3⟩ := h3 k hk
    exact ⟨e, e1, e2.mono h, e3.mono h⟩

theorem Sim.drewN (s : Sim B μ H w) (n : Nat) : Sim B μ H (w.drewN n) := s.same (Ext.drewN n) fun _ _ => rfl

/-- A new block that nobody owns. -/
theorem Ext.alloc (s : Sim B μ H w) (o : Obj) : Ext μ H w μ H (w.alloc o) :=
  ⟨rfl, rfl, rfl, by simp, fun b hb h => ⟨heap_alloc_old w o hb, h⟩, Nat.le_refl _, fun _ _ => .inr ⟨rfl, rfl⟩⟩
theorem Sim.alloc (s : Sim B μ H w) (o : Obj) : Sim B μ H (w.alloc o) := s.same (Ext.alloc s o) fun b hb => heap_alloc_old w o (s.own_lt hb)

theorem totAt_append (H G : Heap) (i : Nat) (h : i < H.length) : totAt (H ++ G) i = totAt H i := by
  unfold totAt; rw [List.getElem?_append_left h]

def put (μ : Nat → Pl) (i : Nat) (p : Pl) : Nat → Pl := fun j => if j = i then p else μ j
theorem put_same (μ : Nat → Pl) (i : Nat) (p : Pl) : put μ i p i = p := by simp [put]
theorem put_other (μ : Nat → Pl) {i j : Nat} (p : Pl) (h : j ≠ i) : put μ i p j = μ j := by simp [put, h]

/-- A new object. -/
theorem Ext.new (s : Sim B μ H w) (o : Obj) (x : AObj) (sz : Nat) : Ext μ H w (put μ H.length ⟨w.heap.size, sz⟩) (H ++ [x]) (w.alloc o) where
  os := rfl
  tape := rfl
  output := rfl
  size := by simp
  keep b hb h := by
    refine ⟨heap_alloc_old w o hb, ?_⟩
    rintro ⟨i, hi, e⟩
    by_cases hj : i = H.length
    · subst hj; rw [put_same] at e; simp at e; omega
    · rw [put_other _ _ hj] at e
      exact h ⟨i, by simp at hi; omega, e⟩
  len := by simp
  obj i hi := .inr ⟨totAt_append H _ i hi, put_other _ _ (by omega)⟩

theorem Sim.new (s : Sim B μ H w) (t : TypeId) (g : Bool) (cs : List AV) (arr : Array Value) (fz : Nat × Nat) (hf : ∀ k, k < arr.size → ¬ (fz.1 ≤ k ∧ k < fz.2)) (hl : cs.length ≤ arr.size) (hg : g = false → cs.length = arr.size)
    (hv : ∀ k (h : k < cs.length), ∃ u, arr[k]? = some u ∧ u.oneCell' = true ∧ VR μ H w cs[k] u) :
    Sim B (put μ H.length ⟨w.heap.size, arr.size⟩) (H ++ [.cells t g cs]) (w.alloc (.cells arr t fz)) := by
  have E := Ext.new s (.cells arr t fz) (.cells t g cs) arr.size
  have hlt : ∀ i, i < H.length → (μ i).b < w.heap.size := fun i hi => s.own_lt ⟨i, hi, rfl⟩
  refine ⟨fun i j hi hj e => ?_, fun i hi => ?_, Nat.le_trans s.le E.size, fun i t' g' cs' hi => ?_, fun i es hi => ?_⟩
  · simp at hi hj
    by_cases h1 : i = H.length <;> by_cases h2 : j = H.length
    · omega
    · subst h1; rw [put_same, put_other _ _ h2] at e; have := hlt j (by omega); simp at e; omega
    · subst h2; rw [put_same, put_other _ _ h1] at e; have := hlt i (by omega); simp at e; omega
    · rw [put_other _ _ h1, put_other _ _ h2] at e; exact s.inj i j (by omega) (by omega) e
  · simp at hi
    by_cases h1 : i = H.length
    · subst h1; rw [put_same]; exact s.le
    · rw [put_other _ _ h1]; exact s.ge i (by omega)
  · by_cases h1 : i = H.length
    · subst h1
      simp at hi
      obtain ⟨rfl, rfl, rfl⟩ := hi
      rw [put_same]
      refine ⟨arr, fz, heap_alloc_new w _, rfl, hf, hl, hg, fun k hk => ?_⟩
      obtain ⟨u, u1, u2, u3⟩ := hv k hk
      exact ⟨u, u1, u2, u3.mono E⟩
    · have hlt' : i < H.length := by have := (List.getElem?_eq_some_iff.1 hi).1; simp at this; omega
      rw [List.getElem?_append_left hlt'] at hi
      obtain ⟨arr', fz', a1, a2, a3, a4, a5, a6⟩ := s.cells i t' g' cs' hi
      rw [put_other _ _ h1]
      refine ⟨arr', fz', (heap_alloc_old w _ (hlt i hlt')).trans a1, a2, a3, a4, a5, fun k hk => ?_⟩
      obtain ⟨u, u1, u2, u3⟩ := a6 k hk
      exact ⟨u, u1, u2, u3.mono E⟩
  · by_cases h1 : i = H.length
    · subst h1; simp at hi
    · have hlt' : i < H.length := by have := (List.getElem?_eq_some_iff.1 hi).1; simp at this; omega
      rw [List.getElem?_append_left hlt'] at hi
      obtain ⟨en, clk, a1, a2, a3⟩ := s.maps i es hi
      rw [put_other _ _ h1]
      refine ⟨en, clk, (heap_alloc_old w _ (hlt i hlt')).trans a1, a2, fun k hk => ?_⟩
      obtain ⟨e, e1, e2, e3⟩ := a3 k hk
      exact ⟨e, e1, e2.mono E, e3.mono E⟩

/-! #### Writing into an owned object -/
theorem setCells_heap (b : Nat) : ∀ (vs : List Value) (o : Nat) (w : World) (arr : Array Value) (t : TypeId) (fz : Nat × Nat), w.heap[b]? = some (.cells arr t fz) →
    ∃ arr', (w.setCells b o vs).heap[b]? = some (.cells arr' t fz) ∧ arr'.size = arr.size ∧ (∀ k, k < o ∨ o + vs.length ≤ k → arr'[k]? = arr[k]?) ∧ ∀ j, j < vs.length → o + j < arr.size → arr'[o + j]? = vs[j]?
  | [], o, w, arr, t, fz, h => ⟨arr, h, rfl, fun _ _ => rfl, fun j hj => by simp at hj⟩
  | v :: r, o, w, arr, t, fz, h => by
    have h1 : (w.setCell ⟨b, o, none⟩ v).heap[b]? = some (.cells (arr.setIfInBounds o v) t fz) := by
      simp [World.setCell, Array.getElem?_modify, h]
    obtain ⟨arr', a1, a2, a3, a4⟩ := setCells_heap b r (o + 1) _ _ t fz h1
    refine ⟨arr', a1, by simpa using a2, fun k hk => ?_, fun j hj hjs => ?_⟩
    · simp only [List.length_cons] at hk
      rw [a3 k (by omega), Array.getElem?_setIfInBounds_ne (by omega)]
    · by_cases h0 : j = 0
      · subst h0
        rw [a3 _ (by omega)]
        simp only [Nat.add_zero, List.getElem?_cons_zero]
        rw [Array.getElem?_setIfInBounds_self_of_lt (by omega)]
      · obtain ⟨j, rfl⟩ : ∃ m, j = m + 1 := ⟨j - 1, by omega⟩
        have := a4 j (by simp at hj; omega) (by simp; omega)
        rw [show o + (j + 1) = o + 1 + j by omega, this]
        simp
theorem setCells_other (b : Nat) : ∀ (vs : List Value) (o : Nat) (w : World) (k : Nat), k ≠ b → (w.setCells b o vs).heap[k]? = w.heap[k]?
  | [], _, _, _, _ => rfl
  | v :: r, o, w, k, h => by
    simp only [World.setCells]
    rw [setCells_other b r (o + 1) _ k h]
    simp only [World.setCell, Array.getElem?_modify]
    rw [if_neg (by omega)]
theorem setCells_rest (b : Nat) : ∀ (vs : List Value) (o : Nat) (w : World), (w.setCells b o vs).os = w.os ∧ (w.setCells b o vs).tape = w.tape ∧ (w.setCells b o vs).output = w.output ∧ (w.setCells b o vs).heap.size = w.heap.size
  | [], _, _ => ⟨rfl, rfl, rfl, rfl⟩
  | v :: r, o, w => by
    obtain ⟨h1, h2, h3, h4⟩ := setCells_rest b r (o + 1) (w.setCell ⟨b, o, none⟩ v)
    exact ⟨h1.trans rfl, h2.trans rfl, h3.trans rfl, h4.trans (by simp)⟩

/-- A list with some of its elements written over; it may grow. -/
def splice (cs : List AV) (o : Nat) (vs : List AV) : List AV := cs.take o ++ vs ++ cs.drop (o + vs.length)
theorem splice_length (cs : List AV) (o : Nat) (vs : List AV) (h : o ≤ cs.length) : (splice cs o vs).length = max cs.length (o + vs.length) := by
  simp only [splice, List.length_append, List.length_take, List.length_drop]; omega
theorem splice_get (cs : List AV) (o : Nat) (vs : List AV) (h : o ≤ cs.length) (k : Nat) : (splice cs o vs)[k]? = if o ≤ k ∧ k < o + vs.length then vs[k - o]? else cs[k]? := by
  have hl : (cs.take o).length = o := by simp; omega
  unfold splice
  by_cases h1 : k < o
  · rw [if_neg (by omega), List.append_assoc, List.getElem?_append_left (by omega), List.getElem?_take_of_lt h1]
  · by_cases h2 : k < o + vs.length
    · rw [if_pos ⟨by omega, h2⟩, List.append_assoc, List.getElem?_append_right (by omega), hl, List.getElem?_append_left (by omega)]
    · rw [if_neg (by omega), List.getElem?_append_right (by simp; omega), List.getElem?_drop]
      congr 1
      simp only [List.length_append, hl]; omega

theorem totAt_set {H : Heap} {i : Nat} (x : AObj) (hi : i < H.length) (j : Nat) : totAt (H.set i x) j = if j = i then x.tot else totAt H j := by
  unfold totAt
  by_cases h : j = i
  · subst h; simp [hi]
  · rw [if_neg h, List.getElem?_set_ne (by omega)]
theorem totAt_of {H : Heap} {i : Nat} {x : AObj} (h : H[i]? = some x) : totAt H i = x.tot := by unfold totAt; rw [h]; rfl

theorem own_set {μ : Nat → Pl} {H : Heap} {i : Nat} {x : AObj} {b : Nat} : own μ (H.set i x) b ↔ own μ H b := by
  unfold own; simp

/-- Cells are written over, or put behind the last one while there is room. -/
theorem Ext.write (s : Sim B μ H w) {i : Nat} {t : TypeId} {g : Bool} {cs : List AV} (hi : H[i]? = some (.cells t g cs)) (o : Nat) (us : List Value) (vs : List AV) (hl : us.length = vs.length) (ho : o ≤ cs.length) :
    Ext μ H w μ (H.set i (.cells t g (splice cs o vs))) (w.setCells (μ i).b o us) where
  os := (setCells_rest _ _ _ _).1
  tape := (setCells_rest _ _ _ _).2.1
  output := (setCells_rest _ _ _ _).2.2.1
  size := Nat.le_of_eq (setCells_rest _ _ _ _).2.2.2.symm
  keep b _ h := ⟨setCells_other _ _ _ _ _ fun e => h ⟨i, (List.getElem?_eq_some_iff.1 hi).1, e.symm⟩, fun h' => h (own_set.1 h')⟩
  len := by simp
  obj j hj := by
    rw [totAt_set _ (List.getElem?_eq_some_iff.1 hi).1]
    by_cases h : j = i
    · subst h
      rw [if_pos rfl, totAt_of hi]
      simp only [AObj.tot, splice_length _ _ _ ho]
      rcases Nat.lt_or_ge cs.length (max cs.length (o + vs.length)) with h1 | h1
      · exact .inl h1
      · exact .inr ⟨by omega, trivial⟩
    · rw [if_neg h]; exact .inr ⟨rfl, rfl⟩

theorem Sim.write (s : Sim B μ H w) {i : Nat} {t : TypeId} {g : Bool} {cs : List AV} (hi : H[i]? = some (.cells t g cs)) (o : Nat) (us : List Value) (vs : List AV) (hl : us.length = vs.length) (ho : o ≤ cs.length)
    (hfit : o + vs.length ≤ (μ i).sz) (hg : g = false → o + vs.length ≤ cs.length) (hv : ∀ j (h : j < vs.length), ∃ u, us[j]? = some u ∧ u.oneCell' = true ∧ VR μ H w vs[j] u) :
    Sim B μ (H.set i (.cells t g (splice cs o vs))) (w.setCells (μ i).b o us) := by
  have E := Ext.write s hi o us vs hl ho
  have hil := (List.getElem?_eq_some_iff.1 hi).1
  obtain ⟨arr, fz, h1, h2, h3, h4, h5, h6⟩ := s.cells i t g cs hi
  obtain ⟨arr', a1, a2, a3, a4⟩ := setCells_heap (μ i).b us o w arr t fz h1
  refine ⟨fun a b ha hb => s.inj a b (by simpa using ha) (by simpa using hb), fun a ha => s.ge a (by simpa using ha), Nat.le_trans s.le E.size, fun j t' g' cs' hj => ?_, fun j es hj => ?_⟩
  · by_cases hji : j = i
    · subst hji
      rw [List.getElem?_set_self hil] at hj
      injection hj with hj
      injection hj with e1 e2 e3
      subst e1 e2 e3
      refine ⟨arr', fz, a1, a2.trans h2, fun k hk => h3 k (by omega), ?_, fun hf => ?_, fun k hk => ?_⟩
      · rw [splice_length _ _ _ ho]; omega
      · rw [splice_length _ _ _ ho]; have := h5 hf; have := hg hf; omega
      · have hk' := hk
        rw [splice_length _ _ _ ho] at hk'
        have hget := splice_get cs o vs ho k
        rw [List.getElem?_eq_getElem hk] at hget
        by_cases hin : o ≤ k ∧ k < o + vs.length
        · rw [if_pos hin] at hget
          obtain ⟨u, u1, u2, u3⟩ := hv (k - o) (by omega)
          refine ⟨u, ?_, u2, ?_⟩
          · have := a4 (k - o) (by omega) (by omega)
            rw [show o + (k - o) = k by omega] at this
            rw [this, u1]
          · rw [List.getElem?_eq_getElem (by omega)] at hget
            injection hget with hget
            rw [hget]; exact u3.mono E
        · rw [if_neg hin] at hget
          have hkc : k < cs.length := by omega
          obtain ⟨u, u1, u2, u3⟩ := h6 k hkc
          refine ⟨u, (a3 k (by omega)).trans u1, u2, ?_⟩
          rw [List.getElem?_eq_getElem hkc] at hget
          injection hget with hget
          rw [hget]; exact u3.mono E
    · rw [List.getElem?_set_ne (by omega)] at hj
      obtain ⟨arr2, fz2, b1, b2, b3, b4, b5, b6⟩ := s.cells j t' g' cs' hj
      have hne : (μ j).b ≠ (μ i).b := fun e => hji (s.inj j i (List.getElem?_eq_some_iff.1 hj).1 hil e)
      refine ⟨arr2, fz2, (setCells_other _ _ _ _ _ hne).trans b1, b2, b3, b4, b5, fun k hk => ?_⟩
      obtain ⟨u, u1, u2, u3⟩ := b6 k hk
      exact ⟨u, u1, u2, u3.mono E⟩
  · have hji : j ≠ i := by rintro rfl; rw [List.getElem?_set_self hil] at hj; simp at hj
    rw [List.getElem?_set_ne (by omega)] at hj
    obtain ⟨en, clk, b1, b2, b3⟩ := s.maps j es hj
    have hne : (μ j).b ≠ (μ i).b := fun e => hji (s.inj j i (List.getElem?_eq_some_iff.1 hj).1 hil e)
    refine ⟨en, clk, (setCells_other _ _ _ _ _ hne).trans b1, b2, fun k hk => ?_⟩
    obtain ⟨e, e1, e2, e3⟩ := b3 k hk
    exact ⟨e, e1, e2.mono E, e3.mono E⟩

/-- An object that moves to a new block, and has more cells there. -/
theorem Ext.move (s : Sim B μ H w) {i : Nat} {x : AObj} (hi : i < H.length) (o : Obj) (sz : Nat) (hgrow : totAt H i < x.tot) : Ext μ H w (put μ i ⟨w.heap.size, sz⟩) (H.set i x) (w.alloc o) where
  os := rfl
  tape := rfl
  output := rfl
  size := by simp
  keep b hb h := by
    refine ⟨heap_alloc_old w o hb, ?_⟩
    rintro ⟨j, hj, e⟩
    by_cases hji : j = i
    · subst hji; rw [put_same] at e; simp at e; omega
    · rw [put_other _ _ hji] at e
      exact h ⟨j, by simpa using hj, e⟩
  len := by simp
  obj j hj := by
    rw [totAt_set _ hi]
    by_cases h : j = i
    · subst h; rw [if_pos rfl]; exact .inl hgrow
    · rw [if_neg h]; exact .inr ⟨rfl, put_other _ _ h⟩

theorem Sim.move (s : Sim B μ H w) {i : Nat} {t0 : TypeId} {g0 : Bool} {cs0 : List AV} (hi : H[i]? = some (.cells t0 g0 cs0)) (t : TypeId) (g : Bool) (cs : List AV) (arr : Array Value) (fz : Nat × Nat)
    (hf : ∀ k, k < arr.size → ¬ (fz.1 ≤ k ∧ k < fz.2)) (hgrow : cs0.length < cs.length) (hl : cs.length ≤ arr.size) (hg : g = false → cs.length = arr.size)
    (hv : ∀ k (h : k < cs.length), ∃ u, arr[k]? = some u ∧ u.oneCell' = true ∧ VR μ H w cs[k] u) :
    Sim B (put μ i ⟨w.heap.size, arr.size⟩) (H.set i (.cells t g cs)) (w.alloc (.cells arr t fz)) := by
  have hil := (List.getElem?_eq_some_iff.1 hi).1
  have E := Ext.move s (x := .cells t g cs) hil (.cells arr t fz) arr.size (by rw [totAt_of hi]; exact hgrow)
  have hlt : ∀ i, i < H.length → (μ i).b < w.heap.size := fun i hi => s.own_lt ⟨i, hi, rfl⟩
  refine ⟨fun a b ha hb e => ?_, fun a ha => ?_, Nat.le_trans s.le E.size, fun j t' g' cs' hj => ?_, fun j es hj => ?_⟩
  · simp at ha hb
    by_cases h1 : a = i <;> by_cases h2 : b = i
    · omega
    · subst h1; rw [put_same, put_other _ _ h2] at e; have := hlt b hb; simp at e; omega
    · subst h2; rw [put_same, put_other _ _ h1] at e; have := hlt a ha; simp at e; omega
    · rw [put_other _ _ h1, put_other _ _ h2] at e; exact s.inj a b ha hb e
  · simp at ha
    by_cases h1 : a = i
    · subst h1; rw [put_same]; exact s.le
    · rw [put_other _ _ h1]; exact s.ge a ha
  · by_cases hji : j = i
    · subst hji
      rw [List.getElem?_set_self hil] at hj
      injection hj with hj
      injection hj with e1 e2 e3
      subst e1 e2 e3
      rw [put_same]
      refine ⟨arr, fz, heap_alloc_new w _, rfl, hf, hl, hg, fun k hk => ?_⟩
      obtain ⟨u, u1, u2, u3⟩ := hv k hk
      exact ⟨u, u1, u2, u3.mono E⟩
    · rw [List.getElem?_set_ne (by omega)] at hj
      obtain ⟨arr2, fz2, b1, b2, b3, b4, b5, b6⟩ := s.cells j t' g' cs' hj
      rw [put_other _ _ hji]
      refine ⟨arr2, fz2, (heap_alloc_old w _ (hlt j (List.getElem?_eq_some_iff.1 hj).1)).trans b1, b2, b3, b4, b5, fun k hk => ?_⟩
      obtain ⟨u, u1, u2, u3⟩ := b6 k hk
      exact ⟨u, u1, u2, u3.mono E⟩
  · have hji : j ≠ i := by rintro rfl; rw [List.getElem?_set_self hil] at hj; simp at hj
    rw [List.getElem?_set_ne (by omega)] at hj
    obtain ⟨en, clk, b1, b2, b3⟩ := s.maps j es hj
    rw [put_other _ _ hji]
    refine ⟨en, clk, (heap_alloc_old w _ (hlt j (List.getElem?_eq_some_iff.1 hj).1)).trans b1, b2, fun k hk => ?_⟩
    obtain ⟨e, e1, e2, e3⟩ := b3 k hk
    exact ⟨e, e1, e2.mono E, e3.mono E⟩
end
end Go.Proofs.Ah

/- The operations on the abstract memory, and that the model's operations do what these say. -/
set_option linter.unusedVariables false
set_option linter.unusedSimpArgs false
namespace Go.Proofs.Ah
open Go

abbrev AFrame := Nat → AV
def upd (fr : AFrame) (d : Nat) (v : AV) : AFrame := fun t => if t = d then v else fr t

inductive Arg where
  | t (n : Nat)
  | c (v : AV)
def Arg.ev (fr : AFrame) : Arg → AV
  | .t n => fr n
  | .c v => v

/-! #### What is read -/
/-- An owned object's cells, if it has so many as the pointer says. -/
def readO (H : Heap) (id tot : Nat) : Option (List AV) :=
  match H[id]? with
  | some (.cells _ _ cs) => if cs.length = tot then some cs else none
  | _ => none
/-- n cells from a pointer on. -/
def loadA (H : Heap) (x : AV) (n : Nat) : Option (List AV) :=
  match x with
  | .ptr id tot idx => match readO H id tot with
    | some cs => if idx + n ≤ cs.length then some ((cs.drop idx).take n) else none
    | none => none
  | .pim cs k => if k + n ≤ cs.length then some ((cs.drop k).take n) else none
  | _ => none
def byteVals (s : ByteArray) : List AV := s.data.toList.map fun b => .int .u8 b.toNat
/-- A slice's or a text's cells; how many elements. -/
def elemsA (H : Heap) (x : AV) (sz : Nat) : Option (Nat × List AV) :=
  match x with
  | .nils => some (0, [])
  | .lst n sz' _ cs => if sz' = sz then some (n, cs) else none
  | .slc id tot off len sz' => if sz' = sz then match readO H id tot with
    | some cs => if off + len * sz ≤ cs.length then some (len, (cs.drop off).take (len * sz)) else none
    | none => none else none
  | .str s => if sz = 1 then some (s.size, byteVals s) else none
  | _ => none
def slenA : AV → Option Nat
  | .nils => some 0
  | .lst n _ _ _ => some n
  | .slc _ _ _ len _ => some len
  | .str s => some s.size
  | _ => none

section
variable {B : Nat} {μ : Nat → Pl} {H : Heap} {w : World}

/-- So many true values, cell by cell. -/
def VRs (μ : Nat → Pl) (H : Heap) (w : World) (vs : List AV) (us : List Value) : Prop :=
  us.length = vs.length ∧ (∀ i (h : i < vs.length), ∃ u, us[i]? = some u ∧ u.oneCell' = true ∧ VR μ H w vs[i] u)
theorem VRs.len {vs : List AV} {us : List Value} (h : VRs μ H w vs us) : us.length = vs.length := h.1
theorem VRs.one {vs : List AV} {us : List Value} (h : VRs μ H w vs us) : ∀ u ∈ us, u.oneCell' = true := by
  intro u hu
  obtain ⟨i, hi, e⟩ := List.getElem_of_mem hu
  obtain ⟨u', e1, e2, _⟩ := h.2 i (by rw [← h.1]; exact hi)
  rw [List.getElem?_eq_getElem hi] at e1
  injection e1 with e1
  rw [← e, e1]; exact e2
theorem VRs.get {vs : List AV} {us : List Value} (h : VRs μ H w vs us) (i : Nat) (h1 : i < vs.length) (h2 : i < us.length) : VR μ H w vs[i] us[i] := by
  obtain ⟨u, e1, _, e3⟩ := h.2 i h1
  rw [List.getElem?_eq_getElem h2] at e1
  injection e1 with e1
  rw [e1]; exact e3
theorem VRs.mono {μ' H' w'} {vs : List AV} {us : List Value} (h : VRs μ H w vs us) (E : Ext μ H w μ' H' w') : VRs μ' H' w' vs us :=
  ⟨h.1, fun i hi => let ⟨u, e1, e2, e3⟩ := h.2 i hi; ⟨u, e1, e2, e3.mono E⟩⟩
theorem VRs.append {vs vs' : List AV} {us us' : List Value} (h : VRs μ H w vs us) (k : VRs μ H w vs' us') : VRs μ H w (vs ++ vs') (us ++ us') := by
  refine ⟨by simp [h.1, k.1], fun i hi => ?_⟩
  by_cases hl : i < vs.length
  · rw [List.getElem?_append_left (by rw [h.1]; exact hl), List.getElem_append_left hl]; exact h.2 i hl
  · rw [List.getElem?_append_right (by rw [h.1]; omega), List.getElem_append_right (by omega)]
    simp only [h.1]
    exact k.2 (i - vs.length) (by simp at hi; omega)
theorem VRs.drop {vs : List AV} {us : List Value} (h : VRs μ H w vs us) (k : Nat) : VRs μ H w (vs.drop k) (us.drop k) := by
  refine ⟨by simp [h.1], fun i hi => ?_⟩
  simp at hi
  rw [List.getElem?_drop, List.getElem_drop]
  exact h.2 (k + i) (by omega)
theorem VRs.take {vs : List AV} {us : List Value} (h : VRs μ H w vs us) (k : Nat) : VRs μ H w (vs.take k) (us.take k) := by
  refine ⟨by simp [h.1], fun i hi => ?_⟩
  simp at hi
  rw [List.getElem?_take_of_lt (by omega), List.getElem_take]
  exact h.2 i (by omega)
theorem VRs.nil : VRs μ H w [] [] := ⟨rfl, fun i h => by simp at h⟩

/-- The cells of an owned object. -/
theorem Sim.read (s : Sim B μ H w) {id tot : Nat} {cs : List AV} (h : readO H id tot = some cs) :
    cs.length = tot ∧ totAt H id = tot ∧ id < H.length ∧ cs.length ≤ (μ id).sz ∧ (∃ arr t fz, w.heap[(μ id).b]? = some (.cells arr t fz) ∧ arr.size = (μ id).sz ∧ ∀ k, k < arr.size → ¬ (fz.1 ≤ k ∧ k < fz.2)) ∧
      ∃ us : List Value, VRs μ H w cs us ∧ ∀ j v, us[j]? = some v → w.cell? ⟨(μ id).b, j, none⟩ = some v := by
  unfold readO at h
  split at h
  · rename_i t g cs' ho
    split at h
    · rename_i hl
      injection h with h
      subst h
      obtain ⟨arr, fz, h1, h2, h3, h4, h5, h6⟩ := s.cells id t g cs' ho
      refine ⟨hl, by rw [totAt_of ho]; exact hl, (List.getElem?_eq_some_iff.1 ho).1, by omega, ⟨arr, t, fz, h1, h2, h3⟩, arr.toList.take cs'.length, ⟨by simp; omega, fun i hi => ?_⟩, fun j v hj => ?_⟩
      · obtain ⟨u, u1, u2, u3⟩ := h6 i hi
        exact ⟨u, by rw [List.getElem?_take_of_lt hi]; simpa using u1, u2, u3⟩
      · rw [List.getElem?_take] at hj
        split at hj
        · rw [cell_of_row w _ j arr t fz h1]; simpa using hj
        · cases hj
    · cases h
  · cases h

/-- Reading n cells by a pointer. -/
theorem loadA_ok (s : Sim B μ H w) {x : AV} {xv : Value} (hx : VR μ H w x xv) {n : Nat} {vs : List AV} (h : loadA H x n = some vs) :
    vs.length = n ∧ ∃ (a : Addr) (us : List Value), xv = .pointer (some a) ∧ VRs μ H w vs us ∧ ∀ j v, us[j]? = some v → w.cell? (a.add j) = some v := by
  cases hx with
  | ptr id tot idx a hid hle ha =>
    simp only [loadA] at h
    split at h
    · rename_i cs hr
      split at h
      · rename_i hn
        injection h with h
        subst h
        obtain ⟨h1, h2, _, _, _, us, hus, hcell⟩ := s.read hr
        refine ⟨by simp; omega, a, (us.drop idx).take n, rfl, (hus.drop idx).take n, fun j v hj => ?_⟩
        rw [ha h2, Addr.add_lit]
        rw [List.getElem?_take] at hj
        split at hj
        · rw [List.getElem?_drop] at hj; exact hcell _ _ hj
        · cases hj
      · cases h
    · cases h
  | pim cs k b o u hc h1 hv hown hb =>
    simp only [loadA] at h
    split at h
    · rename_i hn
      injection h with h
      subst h
      refine ⟨by simp; omega, _, (List.range n).map (fun j => u (k + j)), rfl, ⟨by simp; omega, fun i hi => ?_⟩, fun j v hj => ?_⟩
      · simp at hi
        refine ⟨u (k + i), by rw [List.getElem?_map, List.getElem?_range (by omega)]; rfl, h1 _ (by omega), ?_⟩
        rw [List.getElem_take, List.getElem_drop]
        exact hv (k + i) (by omega)
      · rw [Addr.add_lit]
        rw [List.getElem?_map] at hj
        have hjn : j < n := by
          rcases Nat.lt_or_ge j n with hl | hl
          · exact hl
          · rw [List.getElem?_eq_none (by simp; omega)] at hj; simp at hj
        rw [List.getElem?_range hjn] at hj
        simp at hj
        rw [← hj, show o + k + j = o + (k + j) by omega]
        exact hc _ (by omega)
    · cases h
  | _ => simp [loadA] at h

theorem byteVals_length (s : ByteArray) : (byteVals s).length = s.size := by
  unfold byteVals
  rw [List.length_map]
  exact Array.length_toList
theorem VRs_bytes (s : ByteArray) : VRs μ H w (byteVals s) (s.data.toList.map fun b => Value.int .u8 b.toNat) := by
  refine ⟨by simp [byteVals], fun i hi => ?_⟩
  simp [byteVals] at hi
  refine ⟨.int .u8 (s.data.toList[i]'(by simpa using hi)).toNat, ?_, rfl, ?_⟩
  · rw [List.getElem?_map, List.getElem?_eq_getElem (by simpa using hi)]; rfl
  · simp only [byteVals, List.getElem_map]; exact .int _ _

/-- What a slice or a text holds, as append and copy read it. -/
theorem elemsA_ok (s : Sim B μ H w) {x : AV} {xv : Value} (hx : VR μ H w x xv) {sz n : Nat} {vs : List AV} (h : elemsA H x sz = some (n, vs)) :
    vs.length = n * sz ∧ (∀ P (W : World), (Builtin.lenOf xv).run P W = .ok n W) ∧
      ∃ us : List Value, VRs μ H w vs us ∧ (∀ P (W : World), (∀ b o, b < w.heap.size → W.cell? ⟨b, o, none⟩ = w.cell? ⟨b, o, none⟩) → (Builtin.firstCells sz n xv).run P W = .ok us.toArray W) := by
  cases hx with
  | nils =>
    simp only [elemsA] at h; injection h with h; injection h with h1 h2; subst h1 h2
    exact ⟨by simp, fun P W => rfl, [], VRs.nil, fun P W _ => run_firstCells_none _ _ _ _ _⟩
  | str s =>
    simp only [elemsA] at h
    split at h
    · rename_i hsz
      injection h with h; injection h with h1 h2; subst h1 h2 hsz
      refine ⟨by simp [byteVals_length], fun P W => rfl, _, VRs_bytes s, fun P W _ => ?_⟩
      simp only [Builtin.firstCells, Sem.run_pure]
      congr 1
      have : s.extract 0 s.size = s := by simp
      rw [this]
      apply Array.ext'
      simp
    · cases h
  | slc id tot off len sz' a c hid hle hlc ha =>
    simp only [elemsA] at h
    split at h
    · rename_i hsz
      subst hsz
      split at h
      · rename_i cs hr
        split at h
        · rename_i hn
          injection h with h; injection h with h1 h2; subst h1 h2
          obtain ⟨r1, r2, _, _, _, us, hus, hcell⟩ := s.read hr
          refine ⟨by simp; omega, fun P W => rfl, (us.drop off).take (len * sz'), (hus.drop off).take _, fun P W hW => ?_⟩
          by_cases hc0 : len = 0
          · subst hc0
            cases a <;> simp [Builtin.firstCells, loadCells, loadCellsFrom]
          · obtain ⟨rfl, _⟩ := ha r2 (by omega)
            refine run_firstCells_some (P := P) W sz' len _ len c _ (by simp [hus.1]; omega) fun j v hj => ?_
            rw [Addr.add_lit]
            rw [List.getElem?_take] at hj
            split at hj
            · rw [List.getElem?_drop] at hj
              rw [hW _ _ (s.own_lt ⟨id, hid, rfl⟩)]
              exact hcell _ _ hj
            · cases hj
        · cases h
      · cases h
    · cases h
  | lst0 sz' full a c hf =>
    simp only [elemsA] at h
    split at h
    · injection h with h; injection h with h1 h2; subst h1 h2
      refine ⟨by simp, fun P W => rfl, [], VRs.nil, fun P W _ => ?_⟩
      cases a <;> simp [Builtin.firstCells, loadCells, loadCellsFrom]
    · cases h
  | lst n' sz' full cs b o c u hn hl hlc hf hc h1 hv hown hb =>
    simp only [elemsA] at h
    split at h
    · rename_i hsz
      subst hsz
      injection h with h; injection h with e1 e2; subst e1 e2
      refine ⟨hl, fun P W => rfl, (List.range cs.length).map u, ⟨by simp, fun i hi => ?_⟩, fun P W hW => ?_⟩
      · exact ⟨u i, by simp [hi], h1 i hi, hv i hi⟩
      · refine run_firstCells_some (P := P) W sz' n' _ n' c _ (by simp [hl]) fun j v hj => ?_
        rw [Addr.add_lit]
        rw [List.getElem?_map] at hj
        have hjn : j < cs.length := by
          rcases Nat.lt_or_ge j cs.length with hl' | hl'
          · exact hl'
          · rw [List.getElem?_eq_none (by simp; omega)] at hj; simp at hj
        rw [List.getElem?_range hjn] at hj
        simp at hj
        rw [← hj, hW _ _ hb]
        exact hc _ hjn
    · cases h
  | _ => simp [elemsA] at h
end
end Go.Proofs.Ah

/- Each operation's step: what it makes of the abstract memory, and that the model's operation does it. -/
set_option linter.unusedVariables false
set_option linter.unusedSimpArgs false
namespace Go.Proofs.Ah
open Go

/-! #### What the program's tables say -/
def isAggP (P : Program) (t : TypeId) : Option Bool :=
  match P.underlying t with
  | some (.struct _) => some true
  | some (.array _ _) => some true
  | some _ => some false
  | none => none
def sizeP (P : Program) (t : TypeId) : Option Nat := (P.info? t).map (·.size)
/-- A constant of one cell. -/
def c1 : Value → Option AV
  | .int k n => some (.int k n)
  | .bool b => some (.bool b)
  | .string s => some (.str s)
  | .pointer none => some .nilp
  | .slice none 0 0 => some .nils
  | .nilFunc => some .nilf
  | .map none => some .nilm
  | _ => none
def cList : List Value → Option (List AV)
  | [] => some []
  | v :: r => match c1 v, cList r with
    | some x, some xs => some (x :: xs)
    | _, _ => none
def cConst : Value → Option AV
  | .agg cs => (cList cs.toList).map .agg
  | v => c1 v
/-- A type's zero value's cells. -/
def zeroP (P : Program) (t : TypeId) : Option (List AV) := ((P.info? t).bind (·.zero)).bind fun z => cList z.cells.toList

section
variable {P : Program} {B : Nat} {μ : Nat → Pl} {H : Heap} {w : World}

theorem c1_ok {v : Value} {x : AV} (h : c1 v = some x) : VR μ H w x v ∧ x.one = true := by
  unfold c1 at h
  split at h <;> first | (injection h with h; subst h; exact ⟨by constructor, rfl⟩) | cases h
theorem cList_ok : ∀ {vs : List Value} {xs : List AV}, cList vs = some xs → VRs μ H w xs vs ∧ xs.all AV.one = true
  | [], xs, h => by simp [cList] at h; subst h; exact ⟨VRs.nil, rfl⟩
  | v :: r, xs, h => by
    simp only [cList] at h
    split at h
    · rename_i x ys h1 h2
      injection h with h; subst h
      obtain ⟨k1, k2⟩ := c1_ok (μ := μ) (H := H) (w := w) h1
      obtain ⟨m1, m2⟩ := cList_ok h2
      refine ⟨⟨by simp [m1.1], fun i hi => ?_⟩, by simp [k2, m2]⟩
      cases i with
      | zero => exact ⟨v, rfl, k1.one k2, k1⟩
      | succ j => simpa using m1.2 j (by simpa using hi)
    · cases h
theorem VRs.agg {vs : List AV} {us : List Value} (h : VRs μ H w vs us) : VR μ H w (.agg vs) (.agg us.toArray) :=
  .agg vs us.toArray (by simp [h.1]) fun i h1 h2 => by simpa using h.get i h1 (by simpa using h2)
theorem VRs.of_agg {vs : List AV} {cv : Array Value} (hs : cv.size = vs.length) (hv : ∀ i (h : i < vs.length) (h' : i < cv.size), VR μ H w vs[i] cv[i]) (h1 : vs.all AV.one = true) : VRs μ H w vs cv.toList :=
  ⟨by simpa using hs, fun i hi => ⟨cv[i]'(by omega), by simp [hs, hi], (hv i hi (by omega)).one (List.all_eq_true.1 h1 _ (List.getElem_mem hi)), hv i hi (by omega)⟩⟩
theorem VR.cellsR {v : AV} {x : Value} (k : VR μ H w v x) (h1 : v.cells.all AV.one = true) : VRs μ H w v.cells x.cells.toList := by
  have hu : v ≠ .undef := by rintro rfl; simp [AV.cells, AV.one] at h1
  obtain ⟨k1, k2⟩ := k.cells hu
  exact VRs.of_agg k1 k2 h1
theorem cConst_ok {v : Value} {x : AV} (h : cConst v = some x) : VR μ H w x v := by
  unfold cConst at h
  split at h
  · rename_i cs
    cases hc : cList cs.toList with
    | none => rw [hc] at h; simp at h
    | some xs =>
      rw [hc] at h
      simp at h
      subst h
      simpa using (cList_ok hc).1.agg
  · exact (c1_ok h).1

/-- One value-giving operation's step. -/
def StepV (P : Program) (B : Nat) (μ : Nat → Pl) (H : Heap) (w : World) (m : Sem Value) (v : AV) (H' : Heap) : Prop :=
  ∃ r μ' w', m.run P w = .ok r w' ∧ Sim B μ' H' w' ∧ Ext μ H w μ' H' w' ∧ VR μ' H' w' v r
def StepU (P : Program) (B : Nat) (μ : Nat → Pl) (H : Heap) (w : World) (m : Sem Unit) (H' : Heap) : Prop :=
  ∃ μ' w', m.run P w = .ok () w' ∧ Sim B μ' H' w' ∧ Ext μ H w μ' H' w'
theorem StepV.pure (s : Sim B μ H w) {m : Sem Value} {v : AV} {r : Value} (h : m.run P w = .ok r w) (hv : VR μ H w v r) : StepV P B μ H w m v H := ⟨r, μ, w, h, s, Ext.refl _ _ _, hv⟩

theorem run_isAgg {t : TypeId} {b : Bool} (h : isAggP P t = some b) (W : World) : (isAgg t).run P W = .ok b W := by
  unfold isAggP at h
  unfold isAgg
  split at h
  · rename_i f hu; injection h with h; subst h; simp [run_underlying hu]
  · rename_i n e hu; injection h with h; subst h; simp [run_underlying hu]
  · rename_i d hd1 hd2 hu
    injection h with h; subst h
    simp only [Sem.run_bind, run_underlying hu, Result.andThen_ok]
    cases d <;> first | rfl | exact (hd1 _ rfl).elim | exact (hd2 _ _ rfl).elim
  · cases h
theorem run_sizeOf {t : TypeId} {n : Nat} (h : sizeP P t = some n) (W : World) : (sizeOf t).run P W = .ok n W := by
  unfold sizeP at h
  cases hi : P.info? t with
  | none => rw [hi] at h; simp at h
  | some i => rw [hi] at h; simp at h; simp [sizeOf, typeInfo, hi, h]
theorem run_zeroValue {t : TypeId} {zs : List AV} (h : zeroP P t = some zs) : ∃ z, (∀ W, (zeroValue t).run P W = .ok z W) ∧ (∀ μ H w, VRs μ H w zs z.cells.toList) ∧ zs.all AV.one = true := by
  unfold zeroP at h
  cases hi : P.info? t with
  | none => rw [hi] at h; simp at h
  | some i =>
    rw [hi] at h
    simp only [Option.bind_some] at h
    cases hz : i.zero with
    | none => rw [hz] at h; simp at h
    | some z =>
      rw [hz] at h
      simp only [Option.bind_some] at h
      exact ⟨z, fun W => by simp [zeroValue, typeInfo, hi, hz], fun μ H w => (cList_ok h).1, (cList_ok (μ := fun _ => ⟨0, 0⟩) (H := []) (w := default) h).2⟩

/-! #### load, store -/
theorem st_load_agg (s : Sim B μ H w) {x : AV} {xv : Value} (hx : VR μ H w x xv) {t : TypeId} {n : Nat} (hA : isAggP P t = some true) (hs : sizeP P t = some n) {vs : List AV} (h : loadA H x n = some vs) :
    StepV P B μ H w (Instr.loadAt t xv) (.agg vs) H := by
  obtain ⟨hl, a, us, rfl, hus, hcell⟩ := loadA_ok s hx h
  refine .pure s ?_ hus.agg
  have := run_loadCells_list (P := P) w a us hcell
  rw [hus.1, hl] at this
  simp [Instr.loadAt, Instr.sureAddr, loadVar, run_isAgg hA, run_sizeOf hs, this]
theorem st_load_one (s : Sim B μ H w) {x : AV} {xv : Value} (hx : VR μ H w x xv) {t : TypeId} (hA : isAggP P t = some false) {v : AV} (h : loadA H x 1 = some [v]) :
    StepV P B μ H w (Instr.loadAt t xv) v H := by
  obtain ⟨hl, a, us, rfl, hus, hcell⟩ := loadA_ok s hx h
  obtain ⟨u, u1, u2, u3⟩ := hus.2 0 (by simp)
  have hc := hcell 0 u u1
  have h0 : a.add 0 = a := by simp [Addr.add]
  rw [h0] at hc
  refine .pure s ?_ u3
  simp [Instr.loadAt, Instr.sureAddr, loadVar, run_isAgg hA, hc]

/-- Cells of an owned object written over. -/
def writeO (H : Heap) (id tot idx : Nat) (vs : List AV) : Option Heap :=
  match H[id]? with
  | some (.cells t g cs) => if cs.length = tot ∧ idx + vs.length ≤ cs.length ∧ vs.all AV.one = true then some (H.set id (.cells t g (splice cs idx vs))) else none
  | _ => none
theorem writeO_ok (s : Sim B μ H w) {id tot idx : Nat} {vs : List AV} {H' : Heap} (h : writeO H id tot idx vs = some H') {us : List Value} (hus : VRs μ H w vs us) :
    totAt H id = tot ∧ Sim B μ H' (w.setCells (μ id).b idx us) ∧ Ext μ H w μ H' (w.setCells (μ id).b idx us) ∧
      (∀ j, j < us.length → (w.cell? ⟨(μ id).b, idx + j, none⟩).isSome = true) ∧ (∀ j, j < us.length → w.frozen? ⟨(μ id).b, idx + j, none⟩ = false) := by
  unfold writeO at h
  split at h
  · rename_i t g cs ho
    split at h
    · rename_i hc
      obtain ⟨c1, c2, c3⟩ := hc
      injection h with h; subst h
      obtain ⟨arr, fz, h1, h2, h3, h4, h5, h6⟩ := s.cells id t g cs ho
      refine ⟨by rw [totAt_of ho]; exact c1, s.write ho idx us vs hus.1 (by omega) (by omega) (fun _ => c2) hus.2, Ext.write s ho idx us vs hus.1 (by omega), fun j hj => ?_, fun j hj => ?_⟩
      · rw [hus.1] at hj
        rw [cell_of_row w _ _ arr t fz h1, Array.getElem?_eq_getElem (by omega)]; rfl
      · rw [hus.1] at hj
        unfold World.frozen?
        simp only [h1]
        have := h3 (idx + j) (by omega)
        simpa using this
    · cases h
  · cases h
theorem st_store (s : Sim B μ H w) {id tot idx : Nat} {xv yv : Value} {y : AV} (hx : VR μ H w (.ptr id tot idx) xv) (hy : VR μ H w y yv) {t : TypeId} {n : Nat} (hs : sizeP P t = some n) (hn : y.cells.length = n) {H' : Heap}
    (h : writeO H id tot idx y.cells = some H') : StepU P B μ H w (Instr.storeAt t xv yv) H' := by
  have h1 : y.cells.all AV.one = true := by
    unfold writeO at h; split at h
    · split at h
      · rename_i hc; exact hc.2.2
      · cases h
    · cases h
  have hus := hy.cellsR h1
  obtain ⟨w1, w2, w3, w4, w5⟩ := writeO_ok s h hus
  cases hx with
  | ptr _ _ _ a hid hle ha =>
    rw [ha w1]
    refine ⟨μ, _, ?_, w2, w3⟩
    have hst := run_storeCells_cells (P := P) (μ id).b idx yv.cells.toList 0 w (by simpa using w4) (by simpa using w5) hus.one
    have hsz : yv.cells.size = n := by have := hus.1; simp at this; omega
    simp only [Nat.add_zero] at hst
    simp [Instr.storeAt, Instr.sureAddr, storeVar, run_sizeOf hs, hsz, hst]

/-! #### new objects -/
theorem st_new (s : Sim B μ H w) (t : TypeId) {vs : List AV} {us : List Value} (hus : VRs μ H w vs us) (g : Bool) :
    ∃ μ', (newRow t us.toArray).run P w = .ok ⟨w.heap.size, 0, none⟩ (w.alloc (.cells us.toArray t)) ∧ Sim B μ' (H ++ [.cells t g vs]) (w.alloc (.cells us.toArray t)) ∧
      Ext μ H w μ' (H ++ [.cells t g vs]) (w.alloc (.cells us.toArray t)) ∧ μ' H.length = ⟨w.heap.size, vs.length⟩ := by
  have hsz : us.toArray.size = vs.length := by simp [hus.1]
  refine ⟨_, by simp [newRow], s.new t g vs us.toArray (0, 0) (fun k _ h => by simp at h) (by omega) (fun _ => by omega) (fun k hk => ?_), Ext.new s _ _ _, ?_⟩
  · simpa using hus.2 k hk
  · rw [put_same, hsz]
theorem VR.newptr {μ' : Nat → Pl} {H' : Heap} {w' : World} {id n b : Nat} (hid : id < H'.length) (ht : totAt H' id = n) (hm : (μ' id).b = b) : VR μ' H' w' (.ptr id n 0) (.pointer (some ⟨b, 0, none⟩)) :=
  .ptr id n 0 _ hid (by omega) fun _ => by rw [hm]
theorem totAt_new (H : Heap) (t : TypeId) (g : Bool) (vs : List AV) : totAt (H ++ [.cells t g vs]) H.length = vs.length := by
  rw [totAt_of (x := .cells t g vs) (by simp)]; rfl
theorem st_alloc (s : Sim B μ H w) {t : TypeId} {zs : List AV} (hz : zeroP P t = some zs) (old : Value) : StepV P B μ H w (Instr.alloc t true old) (.ptr H.length zs.length 0) (H ++ [.cells t false zs]) := by
  obtain ⟨z, z1, z2, z3⟩ := run_zeroValue hz
  obtain ⟨μ', h1, h2, h3, h4⟩ := st_new (P := P) s t (z2 μ H w) false
  refine ⟨.pointer (some ⟨w.heap.size, 0, none⟩), μ', _, ?_, h2, h3, .newptr (by simp) (totAt_new _ _ _ _) (by rw [h4])⟩
  simp only [Array.toArray_toList] at h1
  simp [Instr.alloc, z1, newVar, h1]
theorem st_box (s : Sim B μ H w) {t : TypeId} {x : AV} {xv : Value} (hx : VR μ H w x xv) (h1 : x.cells.all AV.one = true) : StepV P B μ H w (Instr.box t xv) (.ptr H.length x.cells.length 0) (H ++ [.cells t false x.cells]) := by
  obtain ⟨μ', k1, h2, h3, h4⟩ := st_new (P := P) s t (hx.cellsR h1) false
  refine ⟨.pointer (some ⟨w.heap.size, 0, none⟩), μ', _, ?_, h2, h3, .newptr (by simp) (totAt_new _ _ _ _) (by rw [h4])⟩
  simp only [Array.toArray_toList] at k1
  simp [Instr.box, newVar, k1]
end
end Go.Proofs.Ah

/- More operations' steps: numbers, texts, tests; addresses, fields, indexes, slices. -/
set_option linter.unusedVariables false
set_option linter.unusedSimpArgs false
namespace Go.Proofs.Ah
open Go

/-- Two one-cell operands. -/
def binA (op : BinOp) (x y : AV) : Option AV :=
  match x, y with
  | .int k a, .int k' b =>
    match op with
    | .shl => if b < 0 then none else some (.int k (k.wrap (a * 2 ^ (min b.toNat k.bits))))
    | .shr => if b < 0 then none else some (.int k (a.fdiv (2 ^ (min b.toNat k.bits))))
    | .add => if k = k' then some (.int k (k.wrap (a + b))) else none
    | .sub => if k = k' then some (.int k (k.wrap (a - b))) else none
    | .mul => if k = k' then some (.int k (k.wrap (a * b))) else none
    | .quo => if k = k' then if b = 0 then none else some (.int k (k.wrap (a.tdiv b))) else none
    | .rem => if k = k' then if b = 0 then none else some (.int k (a.tmod b)) else none
    | .and => if k = k' then some (.int k (k.wrap (BitVec.ofInt k.bits a &&& BitVec.ofInt k.bits b).toNat)) else none
    | .or => if k = k' then some (.int k (k.wrap (BitVec.ofInt k.bits a ||| BitVec.ofInt k.bits b).toNat)) else none
    | .xor => if k = k' then some (.int k (k.wrap (BitVec.ofInt k.bits a ^^^ BitVec.ofInt k.bits b).toNat)) else none
    | .andNot => if k = k' then some (.int k (k.wrap (BitVec.ofInt k.bits a &&& ~~~BitVec.ofInt k.bits b).toNat)) else none
    | .eql => if k = k' then some (.bool (a == b)) else none
    | .neq => if k = k' then some (.bool (a != b)) else none
    | .lss => if k = k' then some (.bool (decide (a < b))) else none
    | .leq => if k = k' then some (.bool (decide (a ≤ b))) else none
    | .gtr => if k = k' then some (.bool (decide (a > b))) else none
    | .geq => if k = k' then some (.bool (decide (a ≥ b))) else none
  | .str a, .str b =>
    match op with
    | .add => if a.size + b.size ≤ 9223372036854775807 then some (.str (a ++ b)) else none
    | .eql => some (.bool (a.toList == b.toList))
    | .neq => some (.bool !(a.toList == b.toList))
    | .lss => some (.bool (Op.bytesLess a.toList b.toList))
    | .leq => some (.bool (Op.bytesLess a.toList b.toList || a.toList == b.toList))
    | .gtr => some (.bool !(Op.bytesLess a.toList b.toList || a.toList == b.toList))
    | .geq => some (.bool !(Op.bytesLess a.toList b.toList))
    | _ => none
  | _, _ => none

def unA (op : UnOp) (x : AV) : Option AV :=
  match op, x with
  | .neg, .int k n => some (.int k (k.wrap (0 - n)))
  | .xor, .int k n => some (.int k (k.wrap (BitVec.ofInt k.bits (if k.signed then -1 else k.max) ^^^ BitVec.ofInt k.bits n).toNat))
  | .not, .bool b => some (.bool !b)
  | _, _ => none

section
variable {P : Program} {B : Nat} {μ : Nat → Pl} {H : Heap} {w : World}

theorem st_bin (s : Sim B μ H w) {op : BinOp} {x y v : AV} {xv yv : Value} (hx : VR μ H w x xv) (hy : VR μ H w y yv) (t : TypeId) (ox oy : Operand) (h : binA op x y = some v) :
    StepV P B μ H w (do eqGuard op t ox oy xv yv; binOp op t xv yv) v H := by
  cases hx <;> cases hy <;> (first | (simp [binA] at h; done) | skip)
  · rename_i k a k' b
    have hg : ∀ op : BinOp, (eqGuard op t ox oy (.int k a) (.int k' b)).run P w = .ok () w := fun op => by cases op <;> simp [eqGuard]
    cases op <;> simp only [binA] at h <;> (repeat (split at h <;> try cases h)) <;> (try subst_vars) <;>
      (refine .pure s (r := _) (by simp only [Sem.run_bind, hg, Result.andThen_ok, binOp, Op.intArith, Op.intDiv, Op.intBits, Op.intCmp, Op.shift, if_neg, ne_eq, not_true_eq_false, ite_false, ↓reduceIte, Sem.run_pure, *]; first | rfl | skip) (by constructor))
  · rename_i a b
    have hg : ∀ op : BinOp, (eqGuard op t ox oy (.string a) (.string b)).run P w = .ok () w := fun op => by cases op <;> simp [eqGuard]
    have hm : IntKind.i64.max = 9223372036854775807 := by rfl
    cases op <;> simp only [binA] at h <;> (try cases h) <;> first
      | (split at h
         · rename_i hsz
           injection h with h; subst h
           refine .pure s (r := .string (a ++ b)) ?_ (.str _)
           have : ¬ (((a.size + b.size : Nat) : Int) > IntKind.i64.max) := by rw [hm]; omega
           simp only [Sem.run_bind, hg, Result.andThen_ok, binOp, Op.stringOp, if_neg this, Sem.run_pure]
         · cases h)
      | exact .pure s (r := .bool _) (by simp only [Sem.run_bind, hg, Result.andThen_ok, binOp, Op.stringOp, Sem.run_pure]) (.bool _)

theorem st_un (s : Sim B μ H w) {op : UnOp} {x v : AV} {xv : Value} (hx : VR μ H w x xv) (h : unA op x = some v) : StepV P B μ H w (Op.unary op xv) v H := by
  cases hx <;> cases op <;> simp only [unA] at h <;> first
    | (injection h with h; subst h; exact .pure s (by simp only [Op.unary, Op.intArith, Op.intBits, Sem.run_pure]; rfl) (by constructor))
    | cases h
end
end Go.Proofs.Ah

