/- SHA-256's turning of 64 bytes: contract. -/
import Derived.Test.YtncghckcdhfhjaaGreatDoorSha
set_option linter.unusedVariables false
set_option linter.unusedSimpArgs false
set_option maxRecDepth 100000
set_option maxHeartbeats 40000000
namespace Go.Proofs.Ah
open Go

theorem mix_ok (h b : List Nat) (f : Bool) (hh : h.length = 8) (hb : b.length = 64) (H : Heap) : ACall Go.Proofs.Tryz.prog f_sha_mix [.agg (nats .u32 h), .lst 64 1 f (nats .u8 b)] H (.agg (nats .u32 (mix h b))) H := by
  have hw := w2_len b 48
  refine acallP is_sha_mix (by show 2 ≤ 101; decide) ?_
  simp (maxSteps := 1000000) (disch := first | omega | (simp only [go_sem, IntKind.bits] <;> omega) | fail) only [go_sem, ↓reduceIte, Nat.reduceEqDiff, Nat.reduceAdd, c_sha_mix, hh]
  have hW := words_ok b f hb
  have hmix : mix h b = mixA h (mixR h (w2 b 48) 64) 8 := rfl
  rw [hmix]
  generalize w2 b 48 = ws at hw hW ⊢
  refine callK_of (hW _) ?_
  simp (maxSteps := 1000000) (disch := first | omega | (simp only [go_sem, IntKind.bits] <;> omega) | fail) only [go_sem, ↓reduceIte, Nat.reduceEqDiff, Nat.reduceAdd, c_sha_mix_p0]
  refine wpS_loop (fun n fr H' => ∃ i, n = 64 - i ∧ i ≤ 64 ∧ H' = H ++ [.cells 218 false (nats .u32 h), .cells 218 false (nats .u32 (List.replicate 8 0)), .cells 218 false (nats .u32 (mixR h ws i))] ∧ fr 2 = .ptr H.length 8 0 ∧ fr 4 = .ptr (H.length + 1) 8 0 ∧ fr 5 = .ptr (H.length + 2) 8 0 ∧ fr 15 = .agg (nats .u32 ws) ∧ fr 16 = .nat .i64 i) 64 ⟨0, by simp [go_sem, mixR]⟩ ?_
  rintro n fr H' ⟨i, rfl, hi, rfl, h2, h4, h5, h15, h16⟩
  have hv := mixR_len (ws := ws) hh i
  have hm := mixMove_len hv
  simp (maxSteps := 1000000) (disch := first | omega | (simp only [go_sem, IntKind.bits] <;> omega) | fail) only [go_sem, ↓reduceIte, Nat.reduceEqDiff, Nat.reduceAdd, c_sha_mix_p1, h2, h4, h5, h15, h16]
  refine condK_dec (fun hlt => ?_) (fun hge => ?_)
  · simp (maxSteps := 1000000) (disch := first | omega | (simp only [go_sem, IntKind.bits] <;> omega) | fail) only [go_sem, ↓reduceIte, Nat.reduceEqDiff, Nat.reduceAdd, c_sha_mix_p2, c_sha_mix_p3, h2, h4, h5, h15, h16]
    refine callK_of (turn_ok _ 6 (by omega) _) (drawX_un (by simp (maxSteps := 1000000) (disch := first | omega | (simp only [go_sem, IntKind.bits] <;> omega) | fail) only [go_sem, ↓reduceIte, Nat.reduceEqDiff, Nat.reduceAdd, c_sha_mix_p3a, c_sha_mix_p3, c_sha_mix_p4, c_sha_mix_p5, c_sha_mix_p6, and_true, true_and, and_self, h2, h4, h5, h15, h16]) ?_)
    simp (maxSteps := 1000000) (disch := first | omega | (simp only [go_sem, IntKind.bits] <;> omega) | fail) only [go_sem, ↓reduceIte, Nat.reduceEqDiff, Nat.reduceAdd, c_sha_mix_p4, h2, h4, h5, h15, h16]
    refine callK_of (turn_ok _ 11 (by omega) _) (drawX_un (by simp (maxSteps := 1000000) (disch := first | omega | (simp only [go_sem, IntKind.bits] <;> omega) | fail) only [go_sem, ↓reduceIte, Nat.reduceEqDiff, Nat.reduceAdd, c_sha_mix_p3a, c_sha_mix_p3, c_sha_mix_p4, c_sha_mix_p5, c_sha_mix_p6, and_true, true_and, and_self, h2, h4, h5, h15, h16]) ?_)
    simp (maxSteps := 1000000) (disch := first | omega | (simp only [go_sem, IntKind.bits] <;> omega) | fail) only [go_sem, ↓reduceIte, Nat.reduceEqDiff, Nat.reduceAdd, c_sha_mix_p5, h2, h4, h5, h15, h16]
    refine callK_of (turn_ok _ 25 (by omega) _) (drawX_un (by simp (maxSteps := 1000000) (disch := first | omega | (simp only [go_sem, IntKind.bits] <;> omega) | fail) only [go_sem, ↓reduceIte, Nat.reduceEqDiff, Nat.reduceAdd, c_sha_mix_p3a, c_sha_mix_p3, c_sha_mix_p4, c_sha_mix_p5, c_sha_mix_p6, and_true, true_and, and_self, h2, h4, h5, h15, h16]) ?_)
    simp (maxSteps := 1000000) (disch := first | omega | (simp only [go_sem, IntKind.bits] <;> omega) | fail) only [go_sem, ↓reduceIte, Nat.reduceEqDiff, Nat.reduceAdd, c_sha_mix_p6, h2, h4, h5, h15, h16]
    refine callK_of (round_ok i (by omega) _) (drawX_un (by simp (maxSteps := 1000000) (disch := first | omega | (simp only [go_sem, IntKind.bits] <;> omega) | fail) only [go_sem, ↓reduceIte, Nat.reduceEqDiff, Nat.reduceAdd, c_sha_mix_p3a, c_sha_mix_p3, c_sha_mix_p4, c_sha_mix_p5, c_sha_mix_p6, and_true, true_and, and_self, h2, h4, h5, h15, h16]) ?_)
    simp (maxSteps := 1000000) (disch := first | omega | (simp only [go_sem, IntKind.bits] <;> omega) | fail) only [go_sem, ↓reduceIte, Nat.reduceEqDiff, Nat.reduceAdd, c_sha_mix_p7, c_sha_mix_p8, h2, h4, h5, h15, h16]
    refine callK_of (turn_ok _ 2 (by omega) _) ?_
    simp (maxSteps := 1000000) (disch := first | omega | (simp only [go_sem, IntKind.bits] <;> omega) | fail) only [go_sem, ↓reduceIte, Nat.reduceEqDiff, Nat.reduceAdd, c_sha_mix_p9, h2, h4, h5, h15, h16]
    refine callK_of (turn_ok _ 13 (by omega) _) ?_
    simp (maxSteps := 1000000) (disch := first | omega | (simp only [go_sem, IntKind.bits] <;> omega) | fail) only [go_sem, ↓reduceIte, Nat.reduceEqDiff, Nat.reduceAdd, c_sha_mix_p10, h2, h4, h5, h15, h16]
    refine callK_of (turn_ok _ 22 (by omega) _) ?_
    simp (maxSteps := 1000000) (disch := first | omega | (simp only [go_sem, IntKind.bits] <;> omega) | fail) only [go_sem, ↓reduceIte, Nat.reduceEqDiff, Nat.reduceAdd, c_sha_mix_p11, h2, h4, h5, h15, h16]
    simp only [mixMove_eq]
    simp (maxSteps := 1000000) (disch := first | omega | (simp only [go_sem, IntKind.bits] <;> omega) | fail) only [go_sem, ↓reduceIte, Nat.reduceEqDiff, Nat.reduceAdd, hm]
    exact ⟨64 - (i + 1), by omega, i + 1, rfl, by omega, rfl, trivial, trivial, trivial, trivial, rfl⟩
  obtain rfl : i = 64 := by omega
  generalize mixR h ws 64 = v at hv hm ⊢
  simp (maxSteps := 1000000) (disch := first | omega | (simp only [go_sem, IntKind.bits] <;> omega) | fail) only [go_sem, ↓reduceIte, Nat.reduceEqDiff, Nat.reduceAdd, c_sha_mix_p12, h2, h4, h5]
  refine wpS_loop (fun n fr H' => ∃ i, n = 8 - i ∧ i ≤ 8 ∧ H' = H ++ [.cells 218 false (nats .u32 (mixA h v i)), .cells 218 false (nats .u32 (List.replicate 8 0)), .cells 218 false (nats .u32 v)] ∧ fr 2 = .ptr H.length 8 0 ∧ fr 4 = .ptr (H.length + 1) 8 0 ∧ fr 5 = .ptr (H.length + 2) 8 0 ∧ fr 88 = .nat .i64 i) 8 ⟨0, by simp [go_sem, mixA, h2, h4, h5]⟩ ?_
  rintro n fr H' ⟨i, rfl, hi, rfl, h2, h4, h5, h88⟩
  have ha := mixA_len (v := v) hh i
  simp (maxSteps := 1000000) (disch := first | omega | (simp only [go_sem, IntKind.bits] <;> omega) | fail) only [go_sem, ↓reduceIte, Nat.reduceEqDiff, Nat.reduceAdd, c_sha_mix_p13, h2, h4, h5, h88]
  refine condK_dec (fun hlt => ?_) (fun hge => ?_)
  · simp (maxSteps := 1000000) (disch := first | omega | (simp only [go_sem, IntKind.bits] <;> omega) | fail) only [go_sem, ↓reduceIte, Nat.reduceEqDiff, Nat.reduceAdd, c_sha_mix_p14, h2, h4, h5, h88]
    exact ⟨8 - (i + 1), by omega, i + 1, rfl, by omega, rfl, trivial, trivial, trivial, rfl⟩
  obtain rfl : i = 8 := by omega
  generalize mixA h v 8 = r at ha ⊢
  simp (maxSteps := 1000000) (disch := first | omega | (simp only [go_sem, IntKind.bits] <;> omega) | fail) only [go_sem, ↓reduceIte, Nat.reduceEqDiff, Nat.reduceAdd, c_sha_mix_p15, h2, h4, h5]
  exact endP_new 2 (by simp (maxSteps := 1000000) (disch := first | omega | (simp only [go_sem, IntKind.bits] <;> omega) | fail) only [go_sem, ↓reduceIte, Nat.reduceEqDiff, Nat.reduceAdd, h4]; rfl) (by simp (maxSteps := 1000000) (disch := first | omega | (simp only [go_sem, IntKind.bits] <;> omega) | fail) only [go_sem, ↓reduceIte, Nat.reduceEqDiff, Nat.reduceAdd])
theorem mix_ent : EntOk Go.Proofs.Tryz.prog f_sha_mix (.prim (primB mixP)) := primB_ok fun args r h => by
  obtain ⟨hs, bs, f, rfl, h1, h2, rfl⟩ := mixP_ok h
  exact ⟨mix_ok hs bs f h1 h2 [], by simp only [AV.bare, bares_nats]⟩
end Go.Proofs.Ah
