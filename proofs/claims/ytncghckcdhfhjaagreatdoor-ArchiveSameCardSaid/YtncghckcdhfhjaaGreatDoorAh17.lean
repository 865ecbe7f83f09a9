/- More rules for the simplifier. -/
import Derived.Test.YtncghckcdhfhjaaGreatDoorAh16
set_option linter.unusedVariables false
set_option linter.unusedSimpArgs false
namespace Go.Proofs.Ah
open Go

theorem not_u32 {a : Nat} : unA .xor (.nat .u32 a) = some (.nat .u32 ((4294967295 ^^^ a) % 4294967296)) := by
  have h : (IntKind.u32).max = ((4294967295 : Nat) : Int) := rfl
  simp only [unA, AV.nat, h]
  rw [if_neg (show ¬ IntKind.u32.signed = true from by decide), bv_xor]
  rw [wrap_u32]; simp [IntKind.bits]
attribute [go_sem] not_u32
/-- A copy from one slice of numbers to another. -/
def cpy1 (o o2 : Option AObj) (id tot off n tot2 off2 n2 : Nat) (H : Heap) : Option (AV × Heap) := match o2, o with
  | some (.cells _ _ vs), some (.cells t g ws) => if vs.length = tot2 ∧ off2 + n2 ≤ tot2 ∧ ws.length = tot ∧ off + (((vs.drop off2).take n2).take (min n2 n)).length ≤ tot ∧ ((((vs.drop off2).take n2).take (min n2 n)).all AV.one) = true then
      some (.nat .i64 (min n2 n), H.set id (.cells t g (splice ws off (((vs.drop off2).take n2).take (min n2 n))))) else none
  | _, _ => none
theorem copyA_1 {H : Heap} (id tot off n id2 tot2 off2 n2 : Nat) : copyA H (.slc id tot off n 1) (.slc id2 tot2 off2 n2 1) 1 = cpy1 H[id]? H[id2]? id tot off n tot2 off2 n2 H := by
  simp only [copyA, elemsA, if_true, Nat.mul_one, readO, writeO]
  cases h2 : H[id2]? with
  | none => simp only [cpy1]
  | some o2 =>
    cases o2 with
    | map es => simp only [cpy1]
    | cells t2 g2 vs =>
      simp only
      by_cases hl : vs.length = tot2
      · rw [if_pos hl]
        simp only
        by_cases hb : off2 + n2 ≤ vs.length
        · rw [if_pos hb]
          simp only
          cases h1 : H[id]? with
          | none => simp only [cpy1]
          | some o =>
            cases o with
            | map es => simp only [cpy1]
            | cells t g ws =>
              simp only [cpy1]
              by_cases hc : ws.length = tot ∧ off + (((vs.drop off2).take n2).take (min n2 n)).length ≤ ws.length ∧ (((vs.drop off2).take n2).take (min n2 n)).all AV.one = true
              · rw [if_pos hc, if_pos ⟨hl, by omega, hc.1, by rw [← hc.1]; exact hc.2.1, hc.2.2⟩]; rfl
              · rw [if_neg hc, if_neg (by rintro ⟨a1, a2, a3, a4, a5⟩; exact hc ⟨a3, by rw [a3]; exact a4, a5⟩)]
        · rw [if_neg hb]
          cases h1 : H[id]? with
          | none => simp only [cpy1]
          | some o =>
            cases o with
            | map es => simp only [cpy1]
            | cells t g ws =>
              simp only [cpy1]
              rw [if_neg (by rintro ⟨a1, a2, _⟩; omega)]
      · rw [if_neg hl]
        cases h1 : H[id]? with
        | none => simp only [cpy1]
        | some o =>
          cases o with
          | map es => simp only [cpy1]
          | cells t g ws =>
            simp only [cpy1]
            rw [if_neg (by rintro ⟨a1, _⟩; exact hl a1)]
theorem cpy1_nats {H : Heap} {t t2 : TypeId} {g g2 : Bool} {k : IntKind} {ws vs : List Nat} {id tot off n tot2 off2 n2 : Nat} (h1 : vs.length = tot2) (h2 : off2 + n2 ≤ tot2) (h3 : ws.length = tot) (h4 : off + min n2 n ≤ tot) :
    cpy1 (some (.cells t g (nats k ws))) (some (.cells t2 g2 (nats k vs))) id tot off n tot2 off2 n2 H = some (.nat .i64 (min n2 n), H.set id (.cells t g (nats k (ws.take off ++ ((vs.drop off2).take n2).take (min n2 n) ++ ws.drop (off + min n2 n))))) := by
  have hl : (((vs.drop off2).take n2).take (min n2 n)).length = min n2 n := by simp; omega
  simp only [cpy1, nats_len, nats_drop, nats_take, nats_one, hl]
  rw [if_pos ⟨h1, h2, h3, h4, trivial⟩, nats_splice, hl]
attribute [go_sem] copyA_1 cpy1_nats
theorem partA_1 (cs : List AV) (off : Nat) : partA (.agg cs) off 1 false = cs[off]? := by
  cases h : cs[off]? with
  | none =>
    have := List.getElem?_eq_none_iff.1 h
    simp only [partA, mkA]
    rw [if_neg (by omega)]
  | some v => exact partA_one h
theorem partA_n (cs : List AV) (off n : Nat) (h : off + n ≤ cs.length) : partA (.agg cs) off n true = some (.agg ((cs.drop off).take n)) := partA_agg h
def slArr1 (l u : Option Nat) (o : Option AObj) (id tot idx n sz : Nat) : Option AV := match l, u, o with
  | some l, some u, some (.cells _ _ cs) => if cs.length = tot ∧ l ≤ u ∧ u ≤ n ∧ idx + n * sz ≤ cs.length then some (.slc id tot (idx + l * sz) (u - l) sz) else none
  | _, _, _ => none
theorem slArrO_ptr {H : Heap} (id tot idx n sz : Nat) (lo hi : Option AV) : slArrO H (.ptr id tot idx) n sz lo hi = slArr1 (boundA 0 lo) (boundA n hi) H[id]? id tot idx n sz := by
  unfold slArrO slArr1
  cases boundA 0 lo with
  | none => rfl
  | some l =>
    cases boundA n hi with
    | none => rfl
    | some u =>
      simp only [slArrA, readO]
      cases H[id]? with
      | none => rfl
      | some o =>
        cases o with
        | map es => rfl
        | cells t g cs =>
          simp only
          by_cases h : cs.length = tot
          · rw [if_pos h]
            simp only
            by_cases h2 : l ≤ u ∧ u ≤ n ∧ idx + n * sz ≤ cs.length
            · rw [if_pos h2, if_pos ⟨h, h2⟩]
            · rw [if_neg h2, if_neg fun e => h2 e.2]
          · rw [if_neg h, if_neg fun e => h e.1]
theorem slArr1_some {t : TypeId} {g : Bool} {cs : List AV} {l u id tot idx n sz : Nat} (h1 : cs.length = tot) (h2 : l ≤ u) (h3 : u ≤ n) (h4 : idx + n * sz ≤ tot) :
    slArr1 (some l) (some u) (some (.cells t g cs)) id tot idx n sz = some (.slc id tot (idx + l * sz) (u - l) sz) := by
  simp only [slArr1]
  rw [if_pos ⟨h1, h2, h3, by omega⟩]
/-! #### a call that leaves the memory, in a drawn region -/
def side1 (P : Program) (p : Option AOper) (fr : AFrame) (H : Heap) : Prop := match p with
  | some p => (match wantA p.g fr, p.dst with
      | some true, some d => OpA P p.op fr H (fr d) H
      | some false, _ => True
      | _, _ => False)
  | none => False
def sidesK (P : Program) (all : List AOper) (un : List Nat) (fr : AFrame) (H : Heap) : Prop := ∀ j ∈ un, side1 P all[j]? fr H
theorem sidesK_nil {P : Program} {all : List AOper} {fr : AFrame} {H : Heap} : sidesK P all [] fr H = True := by
  apply propext; simp [sidesK]
theorem sidesK_cons {P : Program} {all : List AOper} {fr : AFrame} {H : Heap} (j : Nat) (un : List Nat) : sidesK P all (j :: un) fr H = (side1 P all[j]? fr H ∧ sidesK P all un fr H) := by
  apply propext; simp [sidesK]
theorem side1_op {P : Program} {fr : AFrame} {H : Heap} (d : Nat) (x : AOp) : side1 P (some ⟨some d, .op x, none⟩) fr H = (opS x fr H = some (fr d, H)) := _root_.id rfl
theorem drawX_un {P : Program} {all : List AOper} {un : List Nat} {r : List (AOper × List Nat)} {m : Nat} {d : Option Nat} {f : FuncId} {xs : List Arg} {K : AFrame → Heap → Prop} {fr : AFrame} {H : Heap} {v : AV}
    (h1 : sidesK P all un fr H) (h2 : wpDrawE P all r (m + 1) K (updO fr d v) H) : drawX P all un r m ⟨d, .call f xs, none⟩ K fr H v H := by
  refine .inl ⟨rfl, fun j hj => ?_, h2⟩
  have := h1 j hj
  unfold sideA
  unfold side1 at this
  cases hp : all[j]? with
  | none => rw [hp] at this; exact this
  | some p =>
    rw [hp] at this
    simp only at this ⊢
    rw [if_pos (show (AO.call f xs).loud = true from rfl)]
    exact this
attribute [go_sem] sidesK_nil sidesK_cons side1_op fstsOf_nil fstsOf_cons
attribute [go_sem] partA_1 partA_n slArrO_ptr slArr1_some
end Go.Proofs.Ah

