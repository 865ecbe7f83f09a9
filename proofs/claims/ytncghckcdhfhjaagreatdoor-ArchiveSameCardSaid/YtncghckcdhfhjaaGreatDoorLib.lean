/- Contracts of Go's library, from the kit's shelf, in this machine's words. -/
import Derived.Test.YtncghckcdhfhjaaGreatDoorCode0
import Derived.Test.YtncghckcdhfhjaaGreatDoorCode1
import Derived.Test.YtncghckcdhfhjaaGreatDoorCode2
import Derived.Test.YtncghckcdhfhjaaGreatDoorCode3
import Derived.Test.YtncghckcdhfhjaaGreatDoorShelf
import Derived.Test.YtncghckcdhfhjaaGreatDoorAh24
set_option linter.unusedVariables false
set_option linter.unusedSimpArgs false
set_option maxRecDepth 100000
namespace Go.Proofs.Ah
open Go Go.RowKit

theorem repeat_ok (s : ByteArray) (c : Nat) (hc : c ≤ 9223372036854775807) (hlen : s.size * c ≤ 140737488355328) (H : Heap) : ACall Go.Proofs.Tryz.prog f_strings_Repeat [.str s, .nat .i64 c] H (.str ⟨(Lib.repeatL s.data.toList c).toArray⟩) H := by
  refine acall_below (is_strings_Repeat).1 fun μ w xs hx => ?_
  obtain ⟨x, y, rfl, hx, hy⟩ := hx.two
  cases hx; cases hy
  refine (Go.Proofs.Tryz.strings_Repeat s c w hc hlen).mono ?_
  rintro e w' ⟨rfl, hb⟩
  exact ⟨_, rfl, hb, fun _ _ _ => .str _⟩
theorem join_ok (xs : List ByteArray) (n : Nat) (f : Bool) (sep : ByteArray) (hN : xs.length ≤ 140737488355328) (hlen : (Lib.join (xs.map (·.data.toList)) sep.data.toList).length ≤ 140737488355328) (H : Heap) :
    ACall Go.Proofs.Tryz.prog f_strings_Join [.lst n 1 f (strs xs), .str sep] H (.str ⟨(Lib.join (xs.map (·.data.toList)) sep.data.toList).toArray⟩) H := by
  refine acall_below (is_strings_Join).1 fun μ w vs hx => ?_
  obtain ⟨x, y, rfl, hX, hy⟩ := hx.two
  clear hx
  cases hy
  by_cases h0 : xs = []
  · subst h0
    cases hX with
    | lst0 _ _ a c hf =>
      refine (Go.Proofs.Tryz.strings_Join_none a c sep w).mono ?_
      rintro e w' ⟨rfl, rfl⟩
      exact ⟨_, rfl, Below.refl _ _, fun _ _ _ => .str _⟩
    | lst _ _ _ _ b o c u hn hl hlc hf hc h1 hv hown hb =>
      simp [strs] at hl
      omega
  · obtain ⟨bk, o, c, rfl, hb, hc, hcells⟩ := hX.strs h0
    refine (Go.Proofs.Tryz.strings_Join bk o c xs sep w hcells hb hN hc hlen).mono ?_
    rintro e w' ⟨rfl, hb⟩
    exact ⟨_, rfl, hb, fun _ _ _ => .str _⟩
theorem contains_one_ok (s : ByteArray) (c : UInt8) (H : Heap) : ACall Go.Proofs.Tryz.prog f_strings_Contains [.str s, .str ⟨#[c]⟩] H (.bool (decide (0 ≤ Lib.indexByte s.data.toList c))) H := by
  refine acall_below (is_strings_Contains).1 fun μ w xs hx => ?_
  obtain ⟨x, y, rfl, hx, hy⟩ := hx.two
  cases hx; cases hy
  refine (Go.Proofs.Tryz.strings_Contains_one s c w).mono ?_
  rintro e w' ⟨rfl, rfl⟩
  exact ⟨_, rfl, Below.refl _ _, fun _ _ _ => .bool _⟩
theorem index_one_ok (s : ByteArray) (c : UInt8) (H : Heap) : ACall Go.Proofs.Tryz.prog f_internal_stringslite_Index [.str s, .str ⟨#[c]⟩] H (.int .i64 (Lib.indexByte s.data.toList c)) H := by
  refine acall_below (is_internal_stringslite_Index).1 fun μ w xs hx => ?_
  obtain ⟨x, y, rfl, hx, hy⟩ := hx.two
  cases hx; cases hy
  refine (Go.Proofs.Tryz.stringslite_Index_one s c w).mono ?_
  rintro e w' ⟨rfl, rfl⟩
  exact ⟨_, rfl, Below.refl _ _, fun _ _ _ => .int _ _⟩

/-! #### for the machine -/
noncomputable def repeatP (args : List AV) : Option AV := match args with
  | [.str s, .int .i64 (.ofNat c)] => sel (Nat.ble c 9223372036854775807) (sel (Nat.ble (Nat.mul (lenF s.data.toList) c) 140737488355328) (some (.str (strOf (Lib.repeatL s.data.toList c)))) none) none
  | _ => none
theorem repeat_ent : EntOk Go.Proofs.Tryz.prog f_strings_Repeat (.prim (primB repeatP)) := primB_ok fun args r h => by
  unfold repeatP at h
  split at h
  · rename_i s c
    rw [sel_ble, sel_ble, lenF_eq] at h
    split at h
    · rename_i h1
      split at h
      · rename_i h2
        injection h with h; subst h
        exact ⟨repeat_ok s c h1 (by rw [show s.size = s.data.toList.length from Array.length_toList.symm]; exact h2) [], rfl⟩
      · cases h
    · cases h
  · cases h
noncomputable def strsF (cs : List AV) : Option (List ByteArray) := @List.rec AV (fun _ => Option (List ByteArray)) (some [])
  (fun v _ ih => isStr v (fun s => @Option.rec (List ByteArray) (fun _ => Option (List ByteArray)) none (fun l => some (strOf s :: l)) ih) none) cs
theorem strsF_ok : ∀ {cs : List AV} {xs : List ByteArray}, strsF cs = some xs → cs = strs xs
  | [], xs, h => by
    have h : some [] = some xs := h
    injection h with h; subst h; rfl
  | v :: r, xs, h => by
    cases v with
    | str s =>
      have h : @Option.rec (List ByteArray) (fun _ => Option (List ByteArray)) none (fun l => some (strOf s.data.toList :: l)) (strsF r) = some xs := h
      cases hr : strsF r with
      | none => rw [hr] at h; cases h
      | some l =>
        rw [hr] at h
        have h : some (strOf s.data.toList :: l) = some xs := h
        injection h with h; subst h
        rw [strsF_ok hr, strOf_data]; rfl
    | _ => cases h
noncomputable def joinP (args : List AV) : Option AV := match args with
  | [.lst n 1 f cs, .str sep] => match strsF cs with
    | some xs => sel (Nat.ble (lenF xs) 140737488355328) (sel (Nat.ble (lenF (Lib.join (xs.map (·.data.toList)) sep.data.toList)) 140737488355328) (some (.str (strOf (Lib.join (xs.map (·.data.toList)) sep.data.toList)))) none) none
    | none => none
  | _ => none
theorem join_ent : EntOk Go.Proofs.Tryz.prog f_strings_Join (.prim (primB joinP)) := primB_ok fun args r h => by
  unfold joinP at h
  split at h
  · rename_i n f cs sep
    cases hx : strsF cs with
    | none => rw [hx] at h; cases h
    | some xs =>
      rw [hx] at h
      simp only at h
      rw [sel_ble, sel_ble, lenF_eq, lenF_eq] at h
      split at h
      · rename_i h1
        split at h
        · rename_i h2
          injection h with h; subst h
          rw [strsF_ok hx]
          exact ⟨join_ok xs n f sep h1 h2 [], rfl⟩
        · cases h
      · cases h
  · cases h
end Go.Proofs.Ah
