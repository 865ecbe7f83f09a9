/- 'sledgelaw19.ArchiveSame' gives true for every two archives; the row and the card. -/
import Derived.Test.YtncghckcdhfhjaaGreatDoorLaw
import Derived.Test.YtncghckcdhfhjaaGreatDoorCards
import Derived.Test.YtncghckcdhfhjaaGreatDoorTie
import Derived.WalkKit
import Derived.ProofKit
import Derived.OpenShut
import Derived.Deep.DeepHandedRow
import Derived.Lib.LaidTab
import Derived.SliceStrings
set_option linter.unusedVariables false
set_option maxRecDepth 100000
namespace Go.Proofs.Ah
open Go Go.ChangeShapes Go.WideShapes Go.ChangeAt Go.RowKit

/-- One leaf of a struct's cells. -/
theorem drop_one {l : List Value} {i : Nat} {a : Value} (h : (l.drop i).take 1 = [a]) : l[i]? = some a := by
  have : ((l.drop i).take 1)[0]? = some a := by rw [h]; rfl
  simpa using this
section
variable {H : Type} {enc : TypeId × Value → H}
theorem open_blocks {P : Program} {W : World} {t e : TypeId} {fuel : Nat} {cs : List Value} {x : DataW H × List MemPlace} (ht : P.underlying t = some (.slice e)) (he : P.underlying e = some .string) (hc : P.cellsOf e = 1)
    (h : DataW.trod enc P W 0 (fun _ => true) true fuel t cs = some x) : ∃ v us y, cs = [v] ∧ Bl us y ∧ us.length ≤ maxLen ∧ v.oneCell' = true ∧ ∀ μ, VR μ [] W y v := by
  rcases open_strings ht he hc h with ⟨rfl, _⟩ | ⟨a, len, cap, ss, rfl, _, hl, hm, hss, _, hcell, _⟩
  · exact ⟨_, [], .nils, rfl, .inl ⟨rfl, rfl⟩, by simp, rfl, fun μ => .nils⟩
  · simp only [if_true] at hss
    have hul : (ss.take len).length = len := by simp; omega
    refine ⟨_, ss.take len, .lst len 1 false (strs (ss.take len)), rfl, .inr ⟨false, by rw [hul]⟩, by omega, rfl, fun μ => ?_⟩
    by_cases h0 : len = 0
    · subst h0
      simp only [List.take_zero]
      exact .lst0 1 false _ _ (fun e => by cases e)
    · have hc0 := hcell 0 (by omega)
      obtain ⟨b, o, s⟩ := a
      have hs : s = none := by
        cases s with
        | none => rfl
        | some k =>
          simp only [World.cell?, Addr.add] at hc0
          split at hc0 <;> simp at hc0
      subst hs
      have hb : b < W.heap.size := by
        simp only [World.cell?, Addr.add] at hc0
        split at hc0
        · rename_i hh; exact (Array.getElem?_eq_some_iff.1 hh).1
        · cases hc0
      refine .lst len 1 false (strs (ss.take len)) b o cap (fun i => .string (ss.getD i ByteArray.empty)) (by omega) (by simp [strs]; omega) hl (fun e => by cases e) (fun i hi => ?_) (fun i hi => rfl) (fun i hi => ?_) (by rintro ⟨i, hi, _⟩; simp at hi) hb
      · have hci := hcell i (by simp [strs] at hi; omega)
        simpa [Addr.add_lit] using hci
      · have hi' : i < ss.length := by simp [strs] at hi; omega
        simp [strs, List.getD, hi']
        exact .str _
theorem struct_fields {P : Program} {W : World} {base : Nat} {sp : Nat → Bool} {held : Bool} {t : TypeId} {fs : Array Field} {fuel : Nat} {cs : List Value} {x : DataW H × List MemPlace} (ht : P.underlying t = some (.struct fs)) (h : DataW.trod enc P W base sp held fuel t cs = some x) :
    cs.length = P.cellsOf t ∧ ∃ n, ∀ (i : Nat) (f : Field), fs[i]? = some f → ∃ y, DataW.trod enc P W base sp held n f.type ((cs.drop f.offset).take (P.cellsOf f.type)) = some y := by
  obtain ⟨xs, n, _, _, hl, hn, hf⟩ := DataW.trod_struct ht h
  refine ⟨hl, n, fun i f hi => ?_⟩
  have hif : i < xs.length := by rw [hn]; exact (Array.getElem?_eq_some_iff.1 hi).1
  exact ⟨xs[i], (hf i f hi).trans (List.getElem?_eq_getElem hif)⟩
theorem cells_arch : Go.Proofs.Tryz.prog.cellsOf 26 = 8 := by kernel_rfl
theorem cells_head : Go.Proofs.Tryz.prog.cellsOf 23 = 7 := by kernel_rfl
theorem cells_texts : Go.Proofs.Tryz.prog.cellsOf 24 = 1 := by kernel_rfl
theorem cells_text : Go.Proofs.Tryz.prog.cellsOf 9 = 1 := by kernel_rfl
theorem cells_int : Go.Proofs.Tryz.prog.cellsOf 3 = 1 := by kernel_rfl
theorem open_arch {W : World} {base : Nat} {v : Value} {d : DataW H} {ps : List MemPlace} (hval : Value.okWide Go.Proofs.Tryz.prog W .any base 26 v)
    (hd : DataW.Trod enc Go.Proofs.Tryz.prog W 0 (fun _ => true) true 26 v d ps) : ∃ (g : Hd) (us : List ByteArray) (y : AV), Bl us y ∧ us.length ≤ maxLen ∧ ∀ μ, VR μ [] W (g.arch y) v := by
  obtain ⟨fuel, h⟩ := hd
  unfold Value.okWide at hval
  rw [Go.Proofs.Tryz.underlying26] at hval
  obtain ⟨cs, rfl, hsz, _⟩ := hval
  obtain ⟨l⟩ := cs
  have h : DataW.trod enc Go.Proofs.Tryz.prog W 0 (fun _ => true) true fuel 26 l = some (d, ps) := h
  obtain ⟨hl, n, hf⟩ := struct_fields Go.Proofs.Tryz.underlying26 h
  rw [cells_arch] at hl
  obtain ⟨y0, f0⟩ := hf 0 _ rfl
  obtain ⟨y1, f1⟩ := hf 1 _ rfl
  clear hf hsz
  match l, hl with
  | [c0, c1, c2, c3, c4, c5, c6, c7], _ =>
  have f0 : DataW.trod enc Go.Proofs.Tryz.prog W 0 (fun _ => true) true n 23 (List.take (Go.Proofs.Tryz.prog.cellsOf 23) [c0, c1, c2, c3, c4, c5, c6, c7]) = some y0 := f0
  have f1 : DataW.trod enc Go.Proofs.Tryz.prog W 0 (fun _ => true) true n 24 (List.take (Go.Proofs.Tryz.prog.cellsOf 24) [c7]) = some y1 := f1
  rw [cells_head] at f0
  rw [cells_texts] at f1
  have f0 : DataW.trod enc Go.Proofs.Tryz.prog W 0 (fun _ => true) true n 23 [c0, c1, c2, c3, c4, c5, c6] = some y0 := f0
  have f1 : DataW.trod enc Go.Proofs.Tryz.prog W 0 (fun _ => true) true n 24 [c7] = some y1 := f1
  obtain ⟨v7, us, y, e7, hB, hN, _, hV⟩ := open_blocks Go.Proofs.Tryz.underlying24 Go.Proofs.Tryz.underlying9 cells_text f1
  injection e7 with e7 _; subst e7
  obtain ⟨_, m, hg⟩ := struct_fields Go.Proofs.Tryz.underlying23 f0
  have gInt : ∀ (c : Value) (z : List Value), (∃ q, DataW.trod enc Go.Proofs.Tryz.prog W 0 (fun _ => true) true m 3 (List.take (Go.Proofs.Tryz.prog.cellsOf 3) (c :: z)) = some q) → ∃ k : Int, c = .int .i64 k := by
    rintro c z ⟨q, hq⟩
    rw [cells_int] at hq
    obtain ⟨k, e, _⟩ := DataW.trod_int Go.Proofs.Tryz.underlying3 hq
    simp at e
    exact ⟨k, e⟩
  have gStr : ∀ (c : Value) (z : List Value), (∃ q, DataW.trod enc Go.Proofs.Tryz.prog W 0 (fun _ => true) true m 9 (List.take (Go.Proofs.Tryz.prog.cellsOf 9) (c :: z)) = some q) → ∃ s : ByteArray, c = .string s := by
    rintro c z ⟨q, hq⟩
    rw [cells_text] at hq
    obtain ⟨k, e, _⟩ := DataW.trod_string Go.Proofs.Tryz.underlying9 hq
    simp at e
    exact ⟨k, e⟩
  obtain ⟨i0, rfl⟩ := gInt c0 _ (hg 0 _ rfl)
  obtain ⟨s1, rfl⟩ := gStr c1 _ (hg 1 _ rfl)
  obtain ⟨i2, rfl⟩ := gInt c2 _ (hg 2 _ rfl)
  obtain ⟨i3, rfl⟩ := gInt c3 _ (hg 3 _ rfl)
  obtain ⟨i4, rfl⟩ := gInt c4 _ (hg 4 _ rfl)
  obtain ⟨s5, rfl⟩ := gStr c5 _ (hg 5 _ rfl)
  obtain ⟨s6, rfl⟩ := gStr c6 _ (hg 6 _ rfl)
  refine ⟨⟨i0, s1, i2, i3, i4, s5, s6⟩, us, y, hB, hN, fun μ => ?_⟩
  refine .agg _ _ rfl fun i h1 h2 => ?_
  match i, h1 with
  | 0, _ => exact .int _ _
  | 1, _ => exact .str _
  | 2, _ => exact .int _ _
  | 3, _ => exact .int _ _
  | 4, _ => exact .int _ _
  | 5, _ => exact .str _
  | 6, _ => exact .str _
  | 7, _ => exact hV μ
end
end Go.Proofs.Ah
