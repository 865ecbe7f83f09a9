/- When two archives are the same. -/
import Derived.Test.YtncghckcdhfhjaaGreatDoorCode0
import Derived.Test.YtncghckcdhfhjaaGreatDoorCode1
import Derived.Test.YtncghckcdhfhjaaGreatDoorCode2
import Derived.Test.YtncghckcdhfhjaaGreatDoorCode3
import Derived.Test.YtncghckcdhfhjaaGreatDoorCode4
import Derived.Test.YtncghckcdhfhjaaGreatDoorAh24
set_option linter.unusedVariables false
set_option linter.unusedSimpArgs false
set_option maxRecDepth 100000
set_option maxHeartbeats 4000000
namespace Go.Proofs.Ah
open Go

/-- A list of texts, as a slice that nobody writes. -/
def Bl (bs : List ByteArray) (v : AV) : Prop := (bs = [] ∧ v = .nils) ∨ ∃ f, v = .lst bs.length 1 f (strs bs)
def nthB (bs : List ByteArray) (i : Nat) : ByteArray := bs.getD i ⟨#[]⟩
theorem bl_len {bs : List ByteArray} {v : AV} (h : Bl bs v) (H : Heap) : lenSA v H = some (.nat .i64 bs.length, H) := by
  rcases h with ⟨rfl, rfl⟩ | ⟨f, rfl⟩
  · exact lenSA_nils
  · exact lenSA_lst _ _ _ _
theorem bl_idx {bs : List ByteArray} {v : AV} (h : Bl bs v) {i : Nat} (hi : i < bs.length) (H : Heap) : iadSA H v (.nat .i64 i) 1 = some (.pim (strs bs) i, H) := by
  rcases h with ⟨rfl, rfl⟩ | ⟨f, rfl⟩
  · simp at hi
  · rw [iadSA_lst hi, Nat.mul_one]
theorem bl_load {bs : List ByteArray} {i : Nat} (hi : i < bs.length) (H : Heap) : loadK H (.pim (strs bs) i) 1 false = some (.str (nthB bs i), H) := by
  have h2 : i + 1 ≤ (strs bs).length := by simp [strs]; omega
  have h3 : ((strs bs).drop i).take 1 = [.str (nthB bs i)] := by
    have : i < (strs bs).length := by simp [strs]; omega
    rw [List.drop_eq_getElem_cons this]
    simp [strs, nthB, List.getD, hi]
  simp only [loadK, loadA, if_pos h2, h3, mkA, Bool.false_eq_true, if_false, same]
theorem bl_eq {us bs : List ByteArray} (hl : us.length = bs.length) (h : ∀ i, i < us.length → nthB us i = nthB bs i) : us = bs := by
  apply List.ext_getElem hl
  intro i h1 h2
  have := h i h1
  simpa [nthB, List.getD, h1, h2] using this
theorem neq_str (a b : ByteArray) : binA .neq (.str a) (.str b) = some (.bool (!decide (a = b))) := by
  by_cases h : a = b
  · subst h; simp [binA]
  · have : ¬ a.toList = b.toList := fun e => h (by rw [ByteArray.toList_eq, ByteArray.toList_eq] at e; rw [← strOf_data a, e, strOf_data])
    simp [binA, h, this]
theorem texts_ok {us bs : List ByteArray} {x y : AV} (hx : Bl us x) (hy : Bl bs y) (hn : us.length < 9223372036854775808) (H : Heap) :
    ACall Go.Proofs.Tryz.prog f_r01_SameTexts [x, y] H (.bool (decide (us = bs))) H := by
  have hxl := bl_len hx
  have hyl := bl_len hy
  refine acallP is_r01_SameTexts (show 2 ≤ 26 from by decide) ?_
  simp (maxSteps := 1000000) (disch := first | omega | (simp only [go_sem, IntKind.bits] <;> omega) | fail) only [go_sem, ↓reduceIte, Nat.reduceEqDiff, Nat.reduceAdd, c_r01_SameTexts, hxl, hyl]
  refine condK_not (fun hne => ?_) (fun hl => ?_)
  · simp (maxSteps := 1000000) (disch := first | omega | (simp only [go_sem, IntKind.bits] <;> omega) | fail) only [go_sem, ↓reduceIte, Nat.reduceEqDiff, Nat.reduceAdd, c_r01_SameTexts_p0]
    rw [decide_eq_false (fun e => hne (by rw [e]))]
    exact endP_same 2 (by simp (maxSteps := 1000000) (disch := first | omega | (simp only [go_sem, IntKind.bits] <;> omega) | fail) only [go_sem, ↓reduceIte, Nat.reduceEqDiff, Nat.reduceAdd]; rfl) (by simp (maxSteps := 1000000) (disch := first | omega | (simp only [go_sem, IntKind.bits] <;> omega) | fail) only [go_sem, ↓reduceIte, Nat.reduceEqDiff, Nat.reduceAdd])
  simp (maxSteps := 1000000) (disch := first | omega | (simp only [go_sem, IntKind.bits] <;> omega) | fail) only [go_sem, ↓reduceIte, Nat.reduceEqDiff, Nat.reduceAdd, c_r01_SameTexts_p1]
  refine wpS_loop (fun n fr H' => ∃ i, n = us.length - i ∧ i ≤ us.length ∧ H' = H ∧ (∀ j, j < i → nthB us j = nthB bs j) ∧ fr 0 = x ∧ fr 1 = y ∧ fr 5 = .nat .i64 i) us.length ⟨0, by simp [go_sem]⟩ ?_
  rintro n fr H' ⟨i, rfl, hi, rfl, hq, h0, h1, h5⟩
  simp (maxSteps := 1000000) (disch := first | omega | (simp only [go_sem, IntKind.bits] <;> omega) | fail) only [go_sem, ↓reduceIte, Nat.reduceEqDiff, Nat.reduceAdd, c_r01_SameTexts_p2, hxl, h0, h1, h5]
  refine condK_dec (fun hlt => ?_) (fun hge => ?_)
  · have hxi := bl_idx hx hlt
    have hyi := bl_idx hy (hl ▸ hlt)
    have hxv := bl_load hlt
    have hyv := bl_load (bs := bs) (hl ▸ hlt)
    simp (maxSteps := 1000000) (disch := first | omega | (simp only [go_sem, IntKind.bits] <;> omega) | fail) only [go_sem, ↓reduceIte, Nat.reduceEqDiff, Nat.reduceAdd, c_r01_SameTexts_p3, h0, h1, h5, hxi, hyi, hxv, hyv, neq_str]

    refine condK_not (fun hne => ?_) (fun he => ?_)
    · simp (maxSteps := 1000000) (disch := first | omega | (simp only [go_sem, IntKind.bits] <;> omega) | fail) only [go_sem, ↓reduceIte, Nat.reduceEqDiff, Nat.reduceAdd, c_r01_SameTexts_p4]
      rw [decide_eq_false (fun e => hne (by rw [e]))]
      exact endP_same 2 (by simp (maxSteps := 1000000) (disch := first | omega | (simp only [go_sem, IntKind.bits] <;> omega) | fail) only [go_sem, ↓reduceIte, Nat.reduceEqDiff, Nat.reduceAdd]; rfl) (by simp (maxSteps := 1000000) (disch := first | omega | (simp only [go_sem, IntKind.bits] <;> omega) | fail) only [go_sem, ↓reduceIte, Nat.reduceEqDiff, Nat.reduceAdd])
    · simp (maxSteps := 1000000) (disch := first | omega | (simp only [go_sem, IntKind.bits] <;> omega) | fail) only [go_sem, ↓reduceIte, Nat.reduceEqDiff, Nat.reduceAdd, c_r01_SameTexts_p5, h0, h1, h5]
      refine ⟨us.length - (i + 1), by omega, i + 1, rfl, by omega, by first | rfl | trivial, fun j hj => ?_, by first | rfl | trivial, by first | rfl | trivial, by first | rfl | trivial⟩
      by_cases hji : j = i
      · subst hji; exact he
      · exact hq j (by omega)
  · obtain rfl : i = us.length := by omega
    simp (maxSteps := 1000000) (disch := first | omega | (simp only [go_sem, IntKind.bits] <;> omega) | fail) only [go_sem, ↓reduceIte, Nat.reduceEqDiff, Nat.reduceAdd, c_r01_SameTexts_p6]
    rw [decide_eq_true (bl_eq hl hq)]
    exact endP_same 2 (by simp (maxSteps := 1000000) (disch := first | omega | (simp only [go_sem, IntKind.bits] <;> omega) | fail) only [go_sem, ↓reduceIte, Nat.reduceEqDiff, Nat.reduceAdd]; rfl) (by simp (maxSteps := 1000000) (disch := first | omega | (simp only [go_sem, IntKind.bits] <;> omega) | fail) only [go_sem, ↓reduceIte, Nat.reduceEqDiff, Nat.reduceAdd])
/-- An archive's header. -/
structure Hd where
  id : Int
  salt : ByteArray
  n : Int
  bytes : Int
  raw : Int
  root : ByteArray
  tag : ByteArray
def Hd.cells (h : Hd) : List AV := [.int .i64 h.id, .str h.salt, .int .i64 h.n, .int .i64 h.bytes, .int .i64 h.raw, .str h.root, .str h.tag]
def Hd.arch (h : Hd) (x : AV) : AV := .agg [.int .i64 h.id, .str h.salt, .int .i64 h.n, .int .i64 h.bytes, .int .i64 h.raw, .str h.root, .str h.tag, x]
def hdTags : List Tag := [.int, .str, .int, .int, .int, .str, .str]
def hdEq (g h : Hd) : Bool := decide (g.id = h.id) && (decide (g.salt = h.salt) && (decide (g.n = h.n) && (decide (g.bytes = h.bytes) && (decide (g.raw = h.raw) && (decide (g.root = h.root) && decide (g.tag = h.tag))))))
theorem str_eq (a b : ByteArray) : (a.toList == b.toList) = decide (a = b) := by
  by_cases h : a = b
  · subst h; simp
  · have : ¬ a.toList = b.toList := fun e => h (by rw [ByteArray.toList_eq, ByteArray.toList_eq] at e; rw [← strOf_data a, e, strOf_data])
    simp [h, this]
theorem eqc_int (ts : List Tag) (k : IntKind) (a b : Int) (r s : List AV) {c : Bool} (h : eqCells ts r s = some c) : eqCells (.int :: ts) (.int k a :: r) (.int k b :: s) = some (decide (a = b) && c) := by
  have he : eqCell .int (.int k a) (.int k b) = some (decide (a = b)) := by
    by_cases e : a = b
    · subst e; simp [eqCell]
    · have : (a == b) = false := by simpa using e
      simp [eqCell, e, this]
  simp only [eqCells, he]
  cases decide (a = b) <;> simp [h]
theorem eqc_str (ts : List Tag) (a b : ByteArray) (r s : List AV) {c : Bool} (h : eqCells ts r s = some c) : eqCells (.str :: ts) (.str a :: r) (.str b :: s) = some (decide (a = b) && c) := by
  have he : eqCell .str (.str a) (.str b) = some (decide (a = b)) := by simp only [eqCell, str_eq]
  simp only [eqCells, he]
  cases decide (a = b) <;> simp [h]
theorem hd_eq (g h : Hd) : eqCells hdTags g.cells h.cells = some (hdEq g h) := by
  refine (eqc_int _ _ _ _ _ _ (eqc_str _ _ _ _ _ (eqc_int _ _ _ _ _ _ (eqc_int _ _ _ _ _ _ (eqc_int _ _ _ _ _ _ (eqc_str _ _ _ _ _ (eqc_str _ _ _ _ _ (c := true) rfl))))))).trans ?_
  simp [hdEq]
theorem hdEq_self (g : Hd) : hdEq g g = true := by simp [hdEq]
theorem dec_comm {α : Type} [DecidableEq α] (a b : α) : decide (a = b) = decide (b = a) := by simp [eq_comm]
theorem hdEq_comm (g h : Hd) : hdEq g h = hdEq h g := by
  unfold hdEq
  rw [dec_comm g.id, dec_comm g.salt, dec_comm g.n, dec_comm g.bytes, dec_comm g.raw, dec_comm g.root, dec_comm g.tag]
theorem archSame_ok {us bs : List ByteArray} {x y : AV} (g h : Hd) (hx : Bl us x) (hy : Bl bs y) (hn : us.length < 9223372036854775808) (H : Heap) :
    ACall Go.Proofs.Tryz.prog f_archive_Same [g.arch x, h.arch y] H (.bool (hdEq g h && decide (us = bs))) H := by
  have hxl := bl_len hx
  have hyl := bl_len hy
  have hh : ∀ G, eqgA true [.int, .str, .int, .int, .int, .str, .str] (.agg (List.take 7 [.int .i64 g.id, .str g.salt, .int .i64 g.n, .int .i64 g.bytes, .int .i64 g.raw, .str g.root, .str g.tag, x])) (.agg (List.take 7 [.int .i64 h.id, .str h.salt, .int .i64 h.n, .int .i64 h.bytes, .int .i64 h.raw, .str h.root, .str h.tag, y])) G = some (.bool !(hdEq g h), G) := fun G => eqgA_some (hd_eq g h)
  have hax : (g.arch x).cells.all AV.one = true := by rcases hx with ⟨_, rfl⟩ | ⟨f, rfl⟩ <;> rfl
  have hay : (h.arch y).cells.all AV.one = true := by rcases hy with ⟨_, rfl⟩ | ⟨f, rfl⟩ <;> rfl
  have hbx : ∀ G, boxA 26 (g.arch x) G = some (.ptr G.length 8 0, G ++ [.cells 26 false [.int .i64 g.id, .str g.salt, .int .i64 g.n, .int .i64 g.bytes, .int .i64 g.raw, .str g.root, .str g.tag, x]]) := fun G => boxA_agg _ _ hax
  have hby : ∀ G, boxA 26 (h.arch y) G = some (.ptr G.length 8 0, G ++ [.cells 26 false [.int .i64 h.id, .str h.salt, .int .i64 h.n, .int .i64 h.bytes, .int .i64 h.raw, .str h.root, .str h.tag, y]]) := fun G => boxA_agg _ _ hay
  refine acallP is_archive_Same (show 2 ≤ 37 from by decide) ?_
  cases he : hdEq g h with
  | false =>
    simp only [he, Bool.not_false] at hh
    simp (maxSteps := 1000000) (disch := first | omega | (simp only [go_sem, IntKind.bits] <;> omega) | fail) only [go_sem, ↓reduceIte, Nat.reduceEqDiff, Nat.reduceAdd, c_archive_Same, hbx, hby, hh, c_archive_Same_p0, c_archive_Same_p1]
    exact endP_new 2 (by simp (maxSteps := 1000000) (disch := first | omega | (simp only [go_sem, IntKind.bits] <;> omega) | fail) only [go_sem, ↓reduceIte, Nat.reduceEqDiff, Nat.reduceAdd]; rfl) (by simp (maxSteps := 1000000) (disch := first | omega | (simp only [go_sem, IntKind.bits] <;> omega) | fail) only [go_sem, ↓reduceIte, Nat.reduceEqDiff, Nat.reduceAdd, Bool.false_and])
  | true =>
    simp only [he, Bool.not_true] at hh
    simp (maxSteps := 1000000) (disch := first | omega | (simp only [go_sem, IntKind.bits] <;> omega) | fail) only [go_sem, ↓reduceIte, Nat.reduceEqDiff, Nat.reduceAdd, c_archive_Same, hbx, hby, hh, c_archive_Same_p0, hxl, hyl]
    refine condK_not (fun hne => ?_) (fun hl => ?_)
    · simp (maxSteps := 1000000) (disch := first | omega | (simp only [go_sem, IntKind.bits] <;> omega) | fail) only [go_sem, ↓reduceIte, Nat.reduceEqDiff, Nat.reduceAdd, c_archive_Same_p1]
      rw [decide_eq_false (fun e => hne (by rw [e]))]
      exact endP_new 2 (by simp (maxSteps := 1000000) (disch := first | omega | (simp only [go_sem, IntKind.bits] <;> omega) | fail) only [go_sem, ↓reduceIte, Nat.reduceEqDiff, Nat.reduceAdd]; rfl) (by simp (maxSteps := 1000000) (disch := first | omega | (simp only [go_sem, IntKind.bits] <;> omega) | fail) only [go_sem, ↓reduceIte, Nat.reduceEqDiff, Nat.reduceAdd, Bool.and_false])
    simp (maxSteps := 1000000) (disch := first | omega | (simp only [go_sem, IntKind.bits] <;> omega) | fail) only [go_sem, ↓reduceIte, Nat.reduceEqDiff, Nat.reduceAdd, c_archive_Same_p2, hxl]
    refine wpS_loop (fun n fr H' => ∃ i, n = us.length - i ∧ i ≤ us.length ∧ H' = H ++ [.cells 26 false [.int .i64 g.id, .str g.salt, .int .i64 g.n, .int .i64 g.bytes, .int .i64 g.raw, .str g.root, .str g.tag, x], .cells 26 false [.int .i64 h.id, .str h.salt, .int .i64 h.n, .int .i64 h.bytes, .int .i64 h.raw, .str h.root, .str h.tag, y]] ∧ (∀ j, j < i → nthB us j = nthB bs j) ∧ fr 3 = .ptr (H.length + 1) 8 0 ∧ fr 22 = x ∧ fr 23 = .nat .i64 us.length ∧ fr 24 = .nat .i64 i) us.length ⟨0, by simp [go_sem]⟩ ?_
    rintro n fr H' ⟨i, rfl, hi, rfl, hq, h3, h22, h23, h24⟩
    simp (maxSteps := 1000000) (disch := first | omega | (simp only [go_sem, IntKind.bits] <;> omega) | fail) only [go_sem, ↓reduceIte, Nat.reduceEqDiff, Nat.reduceAdd, c_archive_Same_p3, h3, h22, h23, h24]
    refine condK_dec (fun hlt => ?_) (fun hge => ?_)
    · have hxi := bl_idx hx hlt
      have hyi := bl_idx hy (hl ▸ hlt)
      have hxv := bl_load hlt
      have hyv := bl_load (bs := bs) (hl ▸ hlt)
      simp (maxSteps := 1000000) (disch := first | omega | (simp only [go_sem, IntKind.bits] <;> omega) | fail) only [go_sem, ↓reduceIte, Nat.reduceEqDiff, Nat.reduceAdd, c_archive_Same_p4, h3, h22, h23, h24, hxi, hyi, hxv, hyv, neq_str]
      refine condK_not (fun hne => ?_) (fun he => ?_)
      · simp (maxSteps := 1000000) (disch := first | omega | (simp only [go_sem, IntKind.bits] <;> omega) | fail) only [go_sem, ↓reduceIte, Nat.reduceEqDiff, Nat.reduceAdd, c_archive_Same_p5]
        rw [decide_eq_false (fun e => hne (by rw [e]))]
        exact endP_new 2 (by simp (maxSteps := 1000000) (disch := first | omega | (simp only [go_sem, IntKind.bits] <;> omega) | fail) only [go_sem, ↓reduceIte, Nat.reduceEqDiff, Nat.reduceAdd]; rfl) (by simp (maxSteps := 1000000) (disch := first | omega | (simp only [go_sem, IntKind.bits] <;> omega) | fail) only [go_sem, ↓reduceIte, Nat.reduceEqDiff, Nat.reduceAdd, Bool.and_false])
      · simp (maxSteps := 1000000) (disch := first | omega | (simp only [go_sem, IntKind.bits] <;> omega) | fail) only [go_sem, ↓reduceIte, Nat.reduceEqDiff, Nat.reduceAdd, c_archive_Same_p6, h3, h22, h23, h24]
        refine ⟨us.length - (i + 1), by omega, i + 1, rfl, by omega, by first | rfl | trivial, fun j hj => ?_, by first | rfl | trivial, by first | rfl | trivial, by first | rfl | trivial, by first | rfl | trivial⟩
        by_cases hji : j = i
        · subst hji; exact he
        · exact hq j (by omega)
    · obtain rfl : i = us.length := by omega
      simp (maxSteps := 1000000) (disch := first | omega | (simp only [go_sem, IntKind.bits] <;> omega) | fail) only [go_sem, ↓reduceIte, Nat.reduceEqDiff, Nat.reduceAdd, c_archive_Same_p7]
      rw [decide_eq_true (bl_eq hl hq)]
      exact endP_new 2 (by simp (maxSteps := 1000000) (disch := first | omega | (simp only [go_sem, IntKind.bits] <;> omega) | fail) only [go_sem, ↓reduceIte, Nat.reduceEqDiff, Nat.reduceAdd]; rfl) (by simp (maxSteps := 1000000) (disch := first | omega | (simp only [go_sem, IntKind.bits] <;> omega) | fail) only [go_sem, ↓reduceIte, Nat.reduceEqDiff, Nat.reduceAdd, Bool.and_true])
theorem refSame_ok {us bs : List ByteArray} {x y : AV} (g h : Hd) (hx : Bl us x) (hy : Bl bs y) (hn : us.length < 9223372036854775808) (H : Heap) :
    ACall Go.Proofs.Tryz.prog f_r19_Same [g.arch x, h.arch y] H (.bool (hdEq g h && decide (us = bs))) H := by
  have hh : ∀ G, eqgA false [.int, .str, .int, .int, .int, .str, .str] (.agg (List.take 7 [.int .i64 g.id, .str g.salt, .int .i64 g.n, .int .i64 g.bytes, .int .i64 g.raw, .str g.root, .str g.tag, x])) (.agg (List.take 7 [.int .i64 h.id, .str h.salt, .int .i64 h.n, .int .i64 h.bytes, .int .i64 h.raw, .str h.root, .str h.tag, y])) G = some (.bool (hdEq g h), G) := fun G => eqgA_some (hd_eq g h)
  have hax : (g.arch x).cells.all AV.one = true := by rcases hx with ⟨_, rfl⟩ | ⟨f, rfl⟩ <;> rfl
  have hay : (h.arch y).cells.all AV.one = true := by rcases hy with ⟨_, rfl⟩ | ⟨f, rfl⟩ <;> rfl
  have hbx : ∀ G, boxA 26 (g.arch x) G = some (.ptr G.length 8 0, G ++ [.cells 26 false [.int .i64 g.id, .str g.salt, .int .i64 g.n, .int .i64 g.bytes, .int .i64 g.raw, .str g.root, .str g.tag, x]]) := fun G => boxA_agg _ _ hax
  have hby : ∀ G, boxA 26 (h.arch y) G = some (.ptr G.length 8 0, G ++ [.cells 26 false [.int .i64 h.id, .str h.salt, .int .i64 h.n, .int .i64 h.bytes, .int .i64 h.raw, .str h.root, .str h.tag, y]]) := fun G => boxA_agg _ _ hay
  refine acallP is_r19_Same (show 2 ≤ 17 from by decide) ?_
  cases he : hdEq g h with
  | false =>
    simp only [he] at hh
    simp (maxSteps := 1000000) (disch := first | omega | (simp only [go_sem, IntKind.bits] <;> omega) | fail) only [go_sem, ↓reduceIte, Nat.reduceEqDiff, Nat.reduceAdd, c_r19_Same, hbx, hby, hh, c_r19_Same_p0, c_r19_Same_p1]
    exact endP_new 2 (by simp (maxSteps := 1000000) (disch := first | omega | (simp only [go_sem, IntKind.bits] <;> omega) | fail) only [go_sem, ↓reduceIte, Nat.reduceEqDiff, Nat.reduceAdd]; rfl) (by simp (maxSteps := 1000000) (disch := first | omega | (simp only [go_sem, IntKind.bits] <;> omega) | fail) only [go_sem, ↓reduceIte, Nat.reduceEqDiff, Nat.reduceAdd, Bool.false_and, Bool.false_eq_true])
  | true =>
    simp only [he] at hh
    simp (maxSteps := 1000000) (disch := first | omega | (simp only [go_sem, IntKind.bits] <;> omega) | fail) only [go_sem, ↓reduceIte, Nat.reduceEqDiff, Nat.reduceAdd, c_r19_Same, hbx, hby, hh, c_r19_Same_p0]
    refine callK_of (texts_ok hx hy hn _) ?_
    simp (maxSteps := 1000000) (disch := first | omega | (simp only [go_sem, IntKind.bits] <;> omega) | fail) only [go_sem, ↓reduceIte, Nat.reduceEqDiff, Nat.reduceAdd, c_r19_Same_p1]
    exact endP_new 2 (by simp (maxSteps := 1000000) (disch := first | omega | (simp only [go_sem, IntKind.bits] <;> omega) | fail) only [go_sem, ↓reduceIte, Nat.reduceEqDiff, Nat.reduceAdd]; rfl) (by simp (maxSteps := 1000000) (disch := first | omega | (simp only [go_sem, IntKind.bits] <;> omega) | fail) only [go_sem, ↓reduceIte, Nat.reduceEqDiff, Nat.reduceAdd, Bool.true_and])
end Go.Proofs.Ah
