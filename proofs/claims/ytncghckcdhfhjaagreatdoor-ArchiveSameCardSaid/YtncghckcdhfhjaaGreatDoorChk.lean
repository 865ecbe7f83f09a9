/- path.Check at "a". -/
import Derived.Test.YtncghckcdhfhjaaGreatDoorLib
import Derived.Test.YtncghckcdhfhjaaGreatDoorCode0
import Derived.Test.YtncghckcdhfhjaaGreatDoorCode1
import Derived.Test.YtncghckcdhfhjaaGreatDoorCode2
import Derived.Test.YtncghckcdhfhjaaGreatDoorCode3
import Derived.Test.YtncghckcdhfhjaaGreatDoorCode4
import Derived.RangeFuncNested
import Derived.RangeFuncBound
import Derived.RangeFuncCalls
import Derived.RangeFuncLeaves
import Derived.RangeFuncFrom
import Derived.Shelf.Abstract
import Derived.Shelf.RegionOpen
import Derived.WalkKit
import Derived.OwnWalkIn
import Derived.TacticsInMore
import Derived.LoopNIn
import Derived.LoopIn
set_option linter.unusedVariables false
set_option linter.unusedSimpArgs false
set_option maxRecDepth 100000
set_option maxHeartbeats 40000000
namespace Go.Proofs.Ah
open Go Go.RowKit Go.Shelf
attribute [local go_sem] Oper.semAt_some

noncomputable def tabC : Tab := Tr.put (Tr.put (Tr.put .e f_internal_stringslite_Index (.prim (memoP [.str (bytesOf [97]), .str (bytesOf [47])] (.int .i64 (-1))))) f_strings_Cut (.code c_strings_Cut 0)) f_internal_stringslite_Cut (.code c_internal_stringslite_Cut 0)
theorem ix_a : ACall Go.Proofs.Tryz.prog f_internal_stringslite_Index [.str (bytesOf [97]), .str (bytesOf [47])] [] (.int .i64 (-1)) [] := by
  have := index_one_ok (bytesOf [97]) 47 []
  have h1 : (⟨#[47]⟩ : ByteArray) = bytesOf [47] := by decide
  have h2 : Lib.indexByte (bytesOf [97]).data.toList 47 = -1 := by decide
  rwa [h1, h2] at this
theorem tabC_ok : TabOk Go.Proofs.Tryz.prog tabC := .put is_internal_stringslite_Cut (.put is_strings_Cut (.put (memo_ok ix_a (by decide +kernel) (by decide +kernel)) .nil))
theorem cut_a : ACall Go.Proofs.Tryz.prog f_strings_Cut [.str (bytesOf [97]), .str (bytesOf [47])] [] (.tup [.str (bytesOf [97]), .str (bytesOf []), .bool false]) [] := run_any tabC_ok (N := 10000) (n := 10) (by decide +kernel)
theorem cut_calls (w : World) : Calls Go.Proofs.Tryz.prog 216 #[.string (bytesOf [97]), .string ⟨#[47]⟩] w fun e w' => e = .returned (.tuple #[.string (bytesOf [97]), .string (bytesOf []), .bool false]) ∧ Below w.heap.size w w' := by
  have h1 : (⟨#[47]⟩ : ByteArray) = bytesOf [47] := by decide
  rw [h1]
  refine (cut_a.calls w _ fun μ => ⟨rfl, fun i h h' => ?_⟩).mono ?_
  · match i, h with
    | 0, _ => exact .str _
    | 1, _ => exact .str _
  · rintro e w' ⟨v, μ', rfl, hb, V⟩
    refine ⟨?_, hb⟩
    cases V with
    | tup cs cv hs hv =>
      match cv, hs with
      | ⟨[a, b, c]⟩, _ =>
        have h0 := hv 0 (by simp) (by simp)
        have h1 := hv 1 (by simp) (by simp)
        have h2 := hv 2 (by simp) (by simp)
        simp at h0 h1 h2
        cases h0; cases h1; cases h2
        rfl
theorem grown_of_below {W W' : World} (h : Below W.heap.size W W') : W.grownBy W' none := ⟨h.os, h.tape, h.output, h.size, fun k hk _ => h.block k hk⟩

theorem cell_of_box_c {W : World} {B : Nat} {v : Value} {t : TypeId} (h : W.heap[B]? = some (.cells #[v] t (0, 0))) : W.cell? ⟨B, 0, none⟩ = some v ∧ W.frozen? ⟨B, 0, none⟩ = false := by
  constructor <;> simp [World.cell?, World.frozen?, h]
theorem cell_new_c (W : World) (v : Value) (t : TypeId) : (W.alloc (.cells #[v] t)).cell? ⟨W.heap.size, 0, none⟩ = some v ∧ (W.alloc (.cells #[v] t)).frozen? ⟨W.heap.size, 0, none⟩ = false :=
  cell_of_box_c (World.alloc_heap_new W _)
theorem cell_alloc_c {W : World} {a : Addr} {v : Value} (o : Obj) (h : W.cell? a = some v) : (W.alloc o).cell? a = some v := cell_kept h (World.grownBy_alloc W o none) (fun r e => by cases e)
theorem frozen_alloc_c {W : World} {a : Addr} {v : Value} (o : Obj) (h : W.cell? a = some v) (hf : W.frozen? a = false) : (W.alloc o).frozen? a = false := (frozen_kept h (World.grownBy_alloc W o none) (fun r e => by cases e)).trans hf
/-- The iterator over a path of one part. -/
theorem parts_in (n : Nat) (hn : 1 ≤ n) (l Bn n₀ B : Nat) (J Jx : List ByteArray → World → Prop) (hJ : AbidesFrom B J)
    (hY : ∀ pre x W, J pre W → pre.length < 1 → YieldAt Fence.wide (n - 1) Go.Proofs.Tryz.prog l #[.string x] W fun e W' =>
      (e = .returned (.bool true) ∧ J (pre ++ [x]) W' ∧ Below n₀ W W') ∨ (e = .returned (.bool false) ∧ Jx (pre ++ [x]) W'))
    (W : World) (hBn : W.cell? ⟨Bn, 0, none⟩ = some (.string (bytesOf [97]))) (h0 : J [] W) :
    CallsIn Fence.wide n Go.Proofs.Tryz.prog 215 #[.func (.yield l) #[] #[], .pointer (some ⟨Bn, 0, none⟩)] W fun e W' => (∃ v, e = .returned v) ∧
      ((∃ ys, ys = [bytesOf [97]] ∧ J ys W') ∨ (∃ pre, pre = [bytesOf [97]] ∧ Jx pre W')) := by
  refine callsIn_of_wp Go.Proofs.Tryz.func215 rfl trivial ?_ rfl
  simp only [Go.Proofs.Tryz.ntmps215, List.size_toArray, List.length_cons, List.length_nil, Nat.reduceAdd, Nat.reduceSub, Array.replicate_succ, Array.replicate_zero, List.push_toArray, List.append_toArray, List.nil_append, List.cons_append]
  gi_wp2
  refine wpIn_loop_once ?_
  gi_wp2_with (refine ⟨trivial, ?_⟩; gi_at_call 216; refine (callsIn_wide.2 (cut_calls _)).mono ?_; rintro e w1 ⟨rfl, hb1⟩; have hJ1 := hJ _ _ _ none h0 (grown_of_below hb1) (fun r e => by cases e); obtain ⟨fn, tmps, assign, body, hy, hR⟩ := hY [] (bytesOf [97]) w1 hJ1 (by simp))
  refine hR.mono ?_
  rintro e W' (⟨rfl, hJ', hk⟩ | ⟨rfl, hJx'⟩)
  · gi_wp2
    refine bodyPost_ret (results_none rfl _ _ _) rfl ?_
    exact ⟨⟨_, rfl⟩, .inl ⟨_, rfl, hJ'⟩⟩
  · gi_wp2
    refine bodyPost_ret (results_none rfl _ _ _) rfl ?_
    exact ⟨⟨_, rfl⟩, .inr ⟨_, rfl, hJx'⟩⟩
theorem parts_stops (n : Nat) (hn : 1 ≤ n) (Bn n₀ : Nat) (w : World) (hBn : Bn < w.heap.size) (hn₀ : n₀ ≤ w.heap.size) (hc : w.cell? ⟨Bn, 0, none⟩ = some (.string (bytesOf [97]))) :
    SeqStopsK Fence.wide n Go.Proofs.Tryz.prog 215 #[.pointer (some ⟨Bn, 0, none⟩)] (fun x : ByteArray => #[Value.string x]) (Below n₀) (fun ys => ys = [bytesOf [97]]) (fun pre => pre = [bytesOf [97]]) 1 w := fun l J Jx W hW hJ _ hY h0 =>
  parts_in n hn l Bn n₀ _ J Jx hJ hY W ((hW.cell (p := ⟨Bn, 0, none⟩) hBn).trans hc) h0
theorem parts_calls (s : ByteArray) (w : World) : Calls Go.Proofs.Tryz.prog 172 #[.string s] w fun e w' => e = .returned (.func (.func 215) #[] #[.pointer (some ⟨w.heap.size, 0, none⟩)]) ∧ w' = w.alloc (.cells #[.string s] 9) := by
  refine (callsIn_wide (n := 4)).1 ?_
  refine callsIn_of_wp Go.Proofs.Tryz.func172 rfl trivial ?_ rfl
  simp only [Go.Proofs.Tryz.ntmps172, List.size_toArray, List.length_cons, List.length_nil, Nat.reduceAdd, Nat.reduceSub, Array.replicate_succ, Array.replicate_zero, List.push_toArray, List.append_toArray, List.nil_append, List.cons_append]
  gi_wp2
  refine bodyPost_ret (results_tmp rfl _ _ _) rfl ?_
  exact ⟨rfl, rfl⟩
theorem toList_a : (bytesOf [97]).toList = [97] := by
  show ByteArray.toList.loop (bytesOf [97]) 0 [] = [97]
  rw [ByteArray.toList.loop, if_pos (by decide), ByteArray.toList.loop, if_neg (by decide)]
  rfl
theorem check_calls (w : World) : Calls Go.Proofs.Tryz.prog 120 #[.string (bytesOf [97])] w fun e W' => e = .returned (.int .i64 0) ∧ Below w.heap.size w W' := by
  refine (callsIn_wide (n := 6)).1 ?_
  refine callsIn_of_wp_marks Go.Proofs.Tryz.func120 rfl trivial ?_ rfl
  simp only [Go.Proofs.Tryz.ntmps120, List.size_toArray, List.length_cons, List.length_nil, Nat.reduceAdd, Nat.reduceSub, Array.replicate_succ, Array.replicate_zero, List.push_toArray, List.append_toArray, List.nil_append, List.cons_append]
  gi_wp2_with (refine ⟨trivial, ?_⟩; first | (gi_at_call 171; refine (callsIn_wide.2 (Go.Proofs.Tryz.strings_Contains_one _ _ _)).mono ?_; rintro e w' ⟨rfl, rfl⟩) | (gi_at_call 172; refine (callsIn_wide.2 (parts_calls _ _)).mono ?_; rintro e w' ⟨rfl, rfl⟩))
  · exact absurd ‹(bytesOf [97]).toList = []› (by rw [toList_a]; simp)
  · rename_i h
    rw [toList_a, show (bytesOf [97]).size = 1 from by decide, show Lib.indexByte (bytesOf [97]).data.toList 0 = -1 from by decide] at h
    simp at h
  have hb := cell_new_c (w.alloc (.cells #[.int .i64 0] 30)) (.string (bytesOf [97])) 9
  rw [World.size_alloc] at hb
  have hs := cell_new_c w (.int .i64 0) 30
  have hB0 : Below w.heap.size w ((w.alloc (.cells #[.int .i64 0] 30)).alloc (.cells #[.string (bytesOf [97])] 9)) := ((Below.refl _ w).alloc (Nat.le_refl _) _).alloc (by simp) _
  have h61 : 1 ≤ 6 := by omega
  refine wpIn_rangeFunc_ownF (F := Fence.wide) (n := 6) (g := .tmp 16) (ps := #[17]) (α := ByteArray) (Kp := Below w.heap.size) (w0 := (w.alloc (.cells #[.int .i64 0] 30)).alloc (.cells #[.string (bytesOf [97])] 9)) rfl h61 (gf := 215) (lb := #[.pointer (some ⟨w.heap.size + 1, 0, none⟩)]) rfl trivial (enters_of Go.Proofs.Tryz.func215 (by kernel_rfl) rfl)
    (parts_stops 5 (by omega) (w.heap.size + 1) w.heap.size _ (by simp) (by simp; omega) hb.1) belowK_t (belowK_b (by simp only [World.size_alloc]; omega)) (Below.refl _ _) (fun _ => rfl)
    (fun (pre : List ByteArray) W => (W.cell? ⟨w.heap.size, 0, none⟩ = some (.int .i64 0) ∧ W.frozen? ⟨w.heap.size, 0, none⟩ = false) ∧ Below w.heap.size w W)
    (fun c (pre : List ByteArray) W => ∃ x : ByteArray, x ∈ pre ∧ (x.toList = [] ∨ x.toList = [46] ∨ x.toList = [46, 46]))
    (OwnFrom.and (Own.from (fun s A B row hs hg hr => ⟨cell_kept hs.1 hg hr, (frozen_kept hs.1 hg hr).trans hs.2⟩) _) (ownFrom_below (Nat.le_refl _) (by simp; omega)))
    (fun c => fun s A B row hs hg hr => hs)
    ⟨⟨cell_alloc_c _ hs.1, frozen_alloc_c _ hs.1 hs.2⟩, hB0⟩
    ?a1 ?assign ?body ?done ?stop
  case assign =>
    intro l x W K hK
    gi_wp2
    exact hK
  case body =>
    rintro l pre x W ⟨⟨hc, hf⟩, hB⟩ _
    gi_wp2
    · exact ⟨KeepsOthers.setCell _ _ _, x, by simp, .inl (by assumption)⟩
    · exact ⟨KeepsOthers.setCell _ _ _, x, by simp, .inr (.inl (by assumption))⟩
    · rename_i h
      exact ⟨KeepsOthers.setCell _ _ _, x, by simp, by simpa [or_assoc] using h⟩
    · exact ⟨KeepsOthers.refl _, Below.refl _ _, ⟨hc, hf⟩, hB⟩
  case done =>
    rintro D ys W hD rfl ⟨⟨hc, hf⟩, hB⟩ hK
    gi_wp2
    have hK' := (KeepsOthers.setCell W ⟨w.heap.size, 0, none⟩ (.int .i64 0)).same D _ hK rfl
    refine ⟨by simp, .inl ⟨_, _, rfl, run_takeDeferred hK', ?_⟩⟩
    have hc5 := cell_kept (World.cell?_setCell_same' W ⟨w.heap.size, 0, none⟩ (.int .i64 0) (by rw [hc]; rfl)) (grownBy_putObj' _ D (.deferred none)) (fun r e => by cases e; exact ⟨_, hK', rfl⟩)
    refine ⟨.int .i64 0, ?_, rfl, (hB.setCell (p := ⟨w.heap.size, 0, none⟩) (Nat.le_refl _) _).trans (belowK_b (w := w) (Nat.le_refl _) _ D _ _ (by simp at hD; omega) hK' rfl rfl)⟩
    simp [results, Go.Proofs.Tryz.f120, go_sem, hc5]
  case stop =>
    rintro D c pre W hD rfl ⟨x, hx, hx'⟩ hK
    simp at hx; subst hx
    rw [toList_a] at hx'; simp at hx'
end Go.Proofs.Ah
