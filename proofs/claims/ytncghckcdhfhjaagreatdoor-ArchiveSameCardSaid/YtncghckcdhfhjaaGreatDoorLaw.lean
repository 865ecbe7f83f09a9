/- The statement of chapter 19 on Same: its function gives true. -/
import Derived.Test.YtncghckcdhfhjaaGreatDoorSame
import Derived.Test.YtncghckcdhfhjaaGreatDoorAwake
set_option linter.unusedVariables false
set_option linter.unusedSimpArgs false
set_option maxRecDepth 100000
set_option maxHeartbeats 4000000
namespace Go.Proofs.Ah
open Go

theorem lawSame_ok {us bs : List ByteArray} {x y : AV} (g h : Hd) (hx : Bl us x) (hy : Bl bs y) (hn : us.length < 9223372036854775808) (hm : bs.length < 9223372036854775808) (H : Heap) :
    ACall Go.Proofs.Tryz.prog f_law19_ArchiveSame [g.arch x, h.arch y] H (.bool true) H := by
  have hax : (g.arch x).cells.all AV.one = true := by rcases hx with ⟨_, rfl⟩ | ⟨f, rfl⟩ <;> rfl
  have hay : (h.arch y).cells.all AV.one = true := by rcases hy with ⟨_, rfl⟩ | ⟨f, rfl⟩ <;> rfl
  have hbx : ∀ G, boxA 26 (g.arch x) G = some (.ptr G.length 8 0, G ++ [.cells 26 false [.int .i64 g.id, .str g.salt, .int .i64 g.n, .int .i64 g.bytes, .int .i64 g.raw, .str g.root, .str g.tag, x]]) := fun G => boxA_agg _ _ hax
  have hby : ∀ G, boxA 26 (h.arch y) G = some (.ptr G.length 8 0, G ++ [.cells 26 false [.int .i64 h.id, .str h.salt, .int .i64 h.n, .int .i64 h.bytes, .int .i64 h.raw, .str h.root, .str h.tag, y]]) := fun G => boxA_agg _ _ hay
  refine acallP is_law19_ArchiveSame (show 2 ≤ 29 from by decide) ?_
  obtain ⟨v, hv⟩ : ∃ v, (hdEq g h && decide (us = bs)) = v := ⟨_, rfl⟩
  have hab : ∀ G, ACall Go.Proofs.Tryz.prog f_archive_Same [g.arch x, h.arch y] G (.bool v) G := fun G => hv ▸ archSame_ok g h hx hy hn G
  have hr : ∀ G, ACall Go.Proofs.Tryz.prog f_r19_Same [g.arch x, h.arch y] G (.bool v) G := fun G => hv ▸ refSame_ok g h hx hy hn G
  have hba : ∀ G, ACall Go.Proofs.Tryz.prog f_archive_Same [h.arch y, g.arch x] G (.bool v) G := fun G => by
    rw [← hv, hdEq_comm g h, dec_comm us bs]; exact archSame_ok h g hy hx hm G
  have haa : ∀ G, ACall Go.Proofs.Tryz.prog f_archive_Same [g.arch x, g.arch x] G (.bool true) G := fun G => by
    have := archSame_ok g g hx hx hn G
    rwa [hdEq_self, decide_eq_true rfl] at this
  have haw : ∀ G, ACall Go.Proofs.Tryz.prog f_law19_Awake [] G (.bool true) G := fun G => acall_any awake_ok rfl rfl G
  have hvv : (v == v) = true := by cases v <;> rfl
  simp (maxSteps := 1000000) (disch := first | omega | (simp only [go_sem, IntKind.bits] <;> omega) | fail) only [go_sem, ↓reduceIte, Nat.reduceEqDiff, Nat.reduceAdd, c_law19_ArchiveSame, c_law19_ArchiveSame_p0, hbx, hby]
  refine callK_of (hab _) ?_
  simp (maxSteps := 1000000) (disch := first | omega | (simp only [go_sem, IntKind.bits] <;> omega) | fail) only [go_sem, ↓reduceIte, Nat.reduceEqDiff, Nat.reduceAdd, c_law19_ArchiveSame_p1]
  refine callK_of (hr _) ?_
  simp (maxSteps := 1000000) (disch := first | omega | (simp only [go_sem, IntKind.bits] <;> omega) | fail) only [go_sem, ↓reduceIte, Nat.reduceEqDiff, Nat.reduceAdd, c_law19_ArchiveSame_p2, hvv, Bool.false_eq_true]
  simp (maxSteps := 1000000) (disch := first | omega | (simp only [go_sem, IntKind.bits] <;> omega) | fail) only [go_sem, ↓reduceIte, Nat.reduceEqDiff, Nat.reduceAdd, c_law19_ArchiveSame_p3, hvv, Bool.false_eq_true]
  refine callK_of (haa _) ?_
  simp (maxSteps := 1000000) (disch := first | omega | (simp only [go_sem, IntKind.bits] <;> omega) | fail) only [go_sem, ↓reduceIte, Nat.reduceEqDiff, Nat.reduceAdd, c_law19_ArchiveSame_p4, c_law19_ArchiveSame_p5]
  refine callK_of (hba _) ?_
  simp (maxSteps := 1000000) (disch := first | omega | (simp only [go_sem, IntKind.bits] <;> omega) | fail) only [go_sem, ↓reduceIte, Nat.reduceEqDiff, Nat.reduceAdd, c_law19_ArchiveSame_p6]
  refine callK_of (hab _) ?_
  simp (maxSteps := 1000000) (disch := first | omega | (simp only [go_sem, IntKind.bits] <;> omega) | fail) only [go_sem, ↓reduceIte, Nat.reduceEqDiff, Nat.reduceAdd, c_law19_ArchiveSame_p7, c_law19_ArchiveSame_p8, hvv, Bool.false_eq_true]
  refine callK_of (haw _) ?_
  simp (maxSteps := 1000000) (disch := first | omega | (simp only [go_sem, IntKind.bits] <;> omega) | fail) only [go_sem, ↓reduceIte, Nat.reduceEqDiff, Nat.reduceAdd, c_law19_ArchiveSame_p9]
  exact endP_new 2 (by simp (maxSteps := 1000000) (disch := first | omega | (simp only [go_sem, IntKind.bits] <;> omega) | fail) only [go_sem, ↓reduceIte, Nat.reduceEqDiff, Nat.reduceAdd]; rfl) (by simp (maxSteps := 1000000) (disch := first | omega | (simp only [go_sem, IntKind.bits] <;> omega) | fail) only [go_sem, ↓reduceIte, Nat.reduceEqDiff, Nat.reduceAdd, Bool.false_eq_true])
end Go.Proofs.Ah
