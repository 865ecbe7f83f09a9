/- SHA-256's inner functions: contracts. -/
import Derived.Test.YtncghckcdhfhjaaGreatDoorCode2
import Derived.Test.YtncghckcdhfhjaaGreatDoorCode3
import Derived.Test.YtncghckcdhfhjaaGreatDoorAh25
set_option linter.unusedVariables false
set_option linter.unusedSimpArgs false
set_option maxRecDepth 100000
set_option maxHeartbeats 40000000
namespace Go.Proofs.Ah
open Go

theorem turn_ok (x n : Nat) (hn : n ≤ 32) (H : Heap) : ACall Go.Proofs.Tryz.prog f_sha_turn [.nat .u32 x, .nat .i64 n] H (.nat .u32 (rotr x n)) H := by
  refine acallP is_sha_turn (by show 2 ≤ 13; decide) ?_
  simp (maxSteps := 1000000) (disch := first | omega | (simp only [go_sem, IntKind.bits] <;> omega) | fail) only [go_sem, ↓reduceIte, Nat.reduceEqDiff, Nat.reduceAdd, c_sha_turn]
  exact endP_same 1 (by simp only [go_sem, ↓reduceIte, Nat.reduceEqDiff, Nat.reduceAdd]; rfl) rfl
theorem words_ok (b : List Nat) (f : Bool) (hb : b.length = 64) (H : Heap) : ACall Go.Proofs.Tryz.prog f_sha_words [.lst 64 1 f (nats .u8 b)] H (.agg (nats .u32 (w2 b 48))) H := by
  refine acallP is_sha_words (by show 1 ≤ 101; decide) ?_
  simp (maxSteps := 1000000) (disch := first | omega | (simp only [go_sem, IntKind.bits] <;> omega) | fail) only [go_sem, ↓reduceIte, Nat.reduceEqDiff, Nat.reduceAdd, c_sha_words]
  refine wpS_loop (fun n fr H' => ∃ i, n = 16 - i ∧ i ≤ 16 ∧ H' = H ++ [.cells 260 false (nats .u32 (List.replicate 64 0)), .cells 260 false (nats .u32 (w1 b i))] ∧ fr 0 = .lst 64 1 f (nats .u8 b) ∧ fr 2 = .ptr H.length 64 0 ∧ fr 3 = .ptr (H.length + 1) 64 0 ∧ fr 8 = .nat .i64 i) 16 ⟨0, by simp [go_sem, w1]⟩ ?_
  rintro n fr H' ⟨i, rfl, hi, rfl, h0, h2, h3, h8⟩
  have hw := w1_len b i
  simp (maxSteps := 1000000) (disch := first | omega | (simp only [go_sem, IntKind.bits] <;> omega) | fail) only [go_sem, ↓reduceIte, Nat.reduceEqDiff, Nat.reduceAdd, c_sha_words_p0, h0, h2, h3, h8]
  refine condK_dec (fun hlt => ?_) (fun hge => ?_)
  · simp (maxSteps := 1000000) (disch := first | omega | (simp only [go_sem, IntKind.bits] <;> omega) | fail) only [go_sem, ↓reduceIte, Nat.reduceEqDiff, Nat.reduceAdd, c_sha_words_p1, h0, h2, h3, h8]
    exact ⟨16 - (i + 1), by omega, i + 1, rfl, by omega, rfl, trivial, trivial, trivial, rfl⟩
  obtain rfl : i = 16 := by omega
  simp (maxSteps := 1000000) (disch := first | omega | (simp only [go_sem, IntKind.bits] <;> omega) | fail) only [go_sem, ↓reduceIte, Nat.reduceEqDiff, Nat.reduceAdd, c_sha_words_p2]
  refine wpS_loop (fun n fr H' => ∃ i, n = 48 - i ∧ i ≤ 48 ∧ H' = H ++ [.cells 260 false (nats .u32 (List.replicate 64 0)), .cells 260 false (nats .u32 (w2 b i))] ∧ fr 2 = .ptr H.length 64 0 ∧ fr 3 = .ptr (H.length + 1) 64 0 ∧ fr 5 = .nat .i64 (i + 16)) 48 ⟨0, by simp [go_sem, w2, h2, h3]⟩ ?_
  rintro n fr H' ⟨i, rfl, hi, rfl, h2, h3, h5⟩
  have hw := w2_len b i
  simp (maxSteps := 1000000) (disch := first | omega | (simp only [go_sem, IntKind.bits] <;> omega) | fail) only [go_sem, ↓reduceIte, Nat.reduceEqDiff, Nat.reduceAdd, c_sha_words_p3, h2, h3, h5]
  refine condK_dec (fun hlt => ?_) (fun hge => ?_)
  · simp (maxSteps := 1000000) (disch := first | omega | (simp only [go_sem, IntKind.bits] <;> omega) | fail) only [go_sem, ↓reduceIte, Nat.reduceEqDiff, Nat.reduceAdd, c_sha_words_p4, c_sha_words_p5, h2, h3, h5]
    refine callK_of (turn_ok _ _ (by omega) _) ?_
    simp (maxSteps := 1000000) (disch := first | omega | (simp only [go_sem, IntKind.bits] <;> omega) | fail) only [go_sem, ↓reduceIte, Nat.reduceEqDiff, Nat.reduceAdd, c_sha_words_p6, h2, h3, h5]
    refine callK_of (turn_ok _ _ (by omega) _) ?_
    simp (maxSteps := 1000000) (disch := first | omega | (simp only [go_sem, IntKind.bits] <;> omega) | fail) only [go_sem, ↓reduceIte, Nat.reduceEqDiff, Nat.reduceAdd, c_sha_words_p7, c_sha_words_p8, h2, h3, h5]
    refine callK_of (turn_ok _ _ (by omega) _) ?_
    simp (maxSteps := 1000000) (disch := first | omega | (simp only [go_sem, IntKind.bits] <;> omega) | fail) only [go_sem, ↓reduceIte, Nat.reduceEqDiff, Nat.reduceAdd, c_sha_words_p9, h2, h3, h5]
    refine callK_of (turn_ok _ _ (by omega) _) ?_
    simp (maxSteps := 1000000) (disch := first | omega | (simp only [go_sem, IntKind.bits] <;> omega) | fail) only [go_sem, ↓reduceIte, Nat.reduceEqDiff, Nat.reduceAdd, c_sha_words_p10, h2, h3, h5]
    exact ⟨48 - (i + 1), by omega, i + 1, rfl, by omega, rfl, trivial, trivial, congrArg _ (by omega)⟩
  obtain rfl : i = 48 := by omega
  simp (maxSteps := 1000000) (disch := first | omega | (simp only [go_sem, IntKind.bits] <;> omega) | fail) only [go_sem, ↓reduceIte, Nat.reduceEqDiff, Nat.reduceAdd, c_sha_words_p11, h2, h3, h5]
  exact endP_new 2 (by simp (maxSteps := 1000000) (disch := first | omega | (simp only [go_sem, IntKind.bits] <;> omega) | fail) only [go_sem, ↓reduceIte, Nat.reduceEqDiff, Nat.reduceAdd, h2]; rfl) (by simp (maxSteps := 1000000) (disch := first | omega | (simp only [go_sem, IntKind.bits] <;> omega) | fail) only [go_sem, ↓reduceIte, Nat.reduceEqDiff, Nat.reduceAdd])

noncomputable def tabRound : Tab := tabOf [(f_sha_round, .code c_sha_round 0)] .e
theorem tabRound_ok : TabOk Go.Proofs.Tryz.prog tabRound := tabOf_ok .nil ⟨is_sha_round, trivial⟩
noncomputable def allRounds : Bool := @List.rec Nat (fun _ => Nat → Bool) (fun _ => true) (fun k _ ih i => isSame (runF tabRound 10 3 0 f_sha_round [.nat .i64 i] ⟨.e, 0⟩) (fun v => eqAV 100 v (.nat .u32 k)) && ih (Nat.succ i)) shaK 0
theorem allRounds_ok : allRounds = true := by decide +kernel
theorem round_all : ∀ (l : List Nat) (j : Nat), @List.rec Nat (fun _ => Nat → Bool) (fun _ => true) (fun k _ ih i => isSame (runF tabRound 10 3 0 f_sha_round [.nat .i64 i] ⟨.e, 0⟩) (fun v => eqAV 100 v (.nat .u32 k)) && ih (Nat.succ i)) l j = true →
    ∀ i, i < l.length → ACall Go.Proofs.Tryz.prog f_sha_round [.nat .i64 (j + i)] [] (.nat .u32 (l.getD i 0)) []
  | [], j, _, i, h => by simp at h
  | k :: r, j, hx, i, h => by
    simp only [Bool.and_eq_true] at hx
    cases i with
    | zero => exact run_any tabRound_ok hx.1
    | succ i =>
      have := round_all r (j + 1) hx.2 i (by simpa using h)
      rw [show j + (i + 1) = j + 1 + i by omega]
      simpa using this
theorem round_ok (i : Nat) (hi : i < 64) (H : Heap) : ACall Go.Proofs.Tryz.prog f_sha_round [.nat .i64 i] H (.nat .u32 (shaK.getD i 0)) H := by
  have := round_all shaK 0 allRounds_ok i (by show i < 64; exact hi)
  rw [Nat.zero_add] at this
  exact acall_any this rfl rfl H
end Go.Proofs.Ah
