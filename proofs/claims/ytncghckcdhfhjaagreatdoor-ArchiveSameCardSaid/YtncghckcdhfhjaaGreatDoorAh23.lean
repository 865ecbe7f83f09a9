/- The kernel's machine: functions; what it runs is a contract. -/
import Derived.Test.YtncghckcdhfhjaaGreatDoorAh22
set_option linter.unusedVariables false
set_option linter.unusedSimpArgs false
namespace Go.Proofs.Ah
open Go

noncomputable def mapO {α : Type} (f : α → Option α) (l : List α) : Option (List α) :=
  @List.rec α (fun _ => Option (List α)) (some []) (fun x _ ih => @Option.rec α (fun _ => Option (List α)) none (fun y => @Option.rec (List α) (fun _ => Option (List α)) none (fun r => some (y :: r)) ih) (f x)) l
theorem mapO_eq {α : Type} (f : α → Option α) : ∀ l : List α, mapO f l = l.mapM f
  | [] => rfl
  | x :: r => by
    show @Option.rec α (fun _ => Option (List α)) none (fun y => @Option.rec (List α) (fun _ => Option (List α)) none (fun r => some (y :: r)) (mapO f r)) (f x) = _
    rw [mapO_eq f r, List.mapM_cons]
    cases f x with
    | none => rfl
    | some y => cases r.mapM f <;> rfl
noncomputable def freezeF (h : HS) (n : Nat) : Nat → AV → Option AV
  | 0, _ => none
  | k + 1, v => match v with
    | .ptr id tot idx => sel (Nat.blt id n) (some (.ptr id tot idx)) none
    | .map id => sel (Nat.blt id n) (some (.map id)) none
    | .slc id tot off len sz => sel (Nat.blt id n) (some (.slc id tot off len sz)) (objK h id (fun _ g m cs => if m = tot ∧ off + len * sz ≤ m then match mapO (freezeF h n k) ((cs.drop off).take (len * sz)) with
        | some cs' => some (.lst len sz (!g && sz != 0 && off + len * sz == m) cs')
        | none => none else none) none)
    | .lst l sz full cs => match mapO (freezeF h n k) cs with
      | some cs' => some (.lst l sz full cs')
      | none => none
    | .pim cs j => match mapO (freezeF h n k) cs with
      | some cs' => some (.pim cs' j)
      | none => none
    | .agg cs => match mapO (freezeF h n k) cs with
      | some cs' => some (.agg cs')
      | none => none
    | .tup cs => match mapO (freezeF h n k) cs with
      | some cs' => some (.tup cs')
      | none => none
    | .fn f cap => match mapO (freezeF h n k) cap with
      | some cap' => some (.fn f cap')
      | none => none
    | v => some v
theorem freezeF_eq {h : HS} {H : Heap} (r : Rep h H) (n : Nat) : ∀ (k : Nat) (v : AV), freezeF h n k v = freezeA H n k v
  | 0, v => rfl
  | k + 1, v => by
    have ih : freezeF h n k = freezeA H n k := funext (freezeF_eq r n k)
    cases v <;> simp only [freezeF, freezeA, sel_blt, mapO_eq, ih]
    case slc id tot off len sz =>
      split
      · rfl
      · rcases objK_cases r id (fun _ g m cs => if m = tot ∧ off + len * sz ≤ m then match ((cs.drop off).take (len * sz)).mapM (freezeA H n k) with
          | some cs' => some (AV.lst len sz (!g && sz != 0 && off + len * sz == m) cs')
          | none => none else none) none with ⟨t, g, cs, e1, e2, _⟩ | ⟨e1, e2⟩
        · rw [e2]; simp only [e1]
          cases ((cs.drop off).take (len * sz)).mapM (freezeA H n k) <;> rfl
        · rw [e2]
          split
          · rename_i t g cs hh; exact (e1 _ _ _ hh).elim
          · rfl
    all_goals first
      | rfl
      | (generalize List.mapM (freezeA H n k) _ = x; cases x <;> rfl)

def rsV (r : RS) : Option AV := match r with
  | .same v => some v
  | _ => none
noncomputable def resF (h : HS) (fr : FT) (x : ARes) : Option AV := match x with
  | .t n => getK fr n some
  | .cell t n agg => getK fr t fun v => rsV (loadF n agg h v)
noncomputable def resFs (h : HS) (fr : FT) : List ARes → Option (List AV)
  | [] => some []
  | r :: rs => match resF h fr r, resFs h fr rs with
    | some v, some vs => some (v :: vs)
    | _, _ => none
noncomputable def retF (rs : List ARes) (h : HS) (fr : FT) : Option AV := match resFs h fr rs with
  | some [v] => some v
  | some vs => some (.tup vs)
  | none => none
section
variable {P : Program} {h : HS} {H : Heap}
theorem resF_ok (r : Rep h H) (fr : FT) (x : ARes) {v : AV} (hx : resF h fr x = some v) : resA fr.fr H x = some v := by
  cases x with
  | t n => simp only [resF, getK_eq] at hx; exact hx
  | cell t n agg =>
    simp only [resF, getK_eq] at hx
    have := loadF_ok (lo := 0) r n agg (fr.fr t)
    cases hl : loadF n agg h (fr.fr t) with
    | no => rw [hl] at hx; cases hx
    | new v h => rw [hl] at hx; cases hx
    | same v' =>
      rw [hl] at hx this
      simp only [rsV] at hx; injection hx with hx; subst hx
      have this : loadK H (fr.fr t) n agg = some (v', H) := this
      simp only [resA]
      simp only [loadK] at this
      cases hA : loadA H (fr.fr t) n with
      | none => rw [hA] at this; cases this
      | some vs => rw [hA] at this; exact (same_ok this).1
theorem resFs_ok (r : Rep h H) (fr : FT) : ∀ (rs : List ARes) {vs : List AV}, resFs h fr rs = some vs → resAs fr.fr H rs = some vs
  | [], vs, hx => hx
  | x :: rs, vs, hx => by
    simp only [resFs] at hx
    split at hx
    · rename_i v vs' h1 h2
      injection hx with hx; subst hx
      simp only [resAs, resF_ok r fr x h1, resFs_ok r fr rs h2]
    · cases hx
theorem retF_ok (r : Rep h H) (fr : FT) (rs : List ARes) {v : AV} (hx : retF rs h fr = some v) : retA rs fr.fr H = some v := by
  unfold retF at hx
  unfold retA
  cases hr : resFs h fr rs with
  | none => rw [hr] at hx; cases hx
  | some vs => rw [hr] at hx; rw [resFs_ok r fr rs hr]; exact hx

/-! #### functions -/
inductive Ent where
  | code (F : AFunc) (mode : Nat)
  | prim (g : List AV → HS → Option AV)
/-- A function's entry: 0: what it gives back is frozen; 1: all objects stay; 2: a new slice comes back, with room. -/
abbrev Tab := Tr Ent
def EntOk (P : Program) (f : Nat) : Ent → Prop
  | .code F _ => IsFun P f F
  | .prim g => ∀ args h H v, Rep h H → g args h = some v → ACall P f args H v H
def TabOk (P : Program) (T : Tab) : Prop := ∀ f e, T.get f = some e → EntOk P f e
theorem TabOk.nil : TabOk P .e := fun f e hf => by rw [Tr.get_e] at hf; cases hf
theorem TabOk.put {f : Nat} {e : Ent} {T : Tab} (h : EntOk P f e) (hT : TabOk P T) : TabOk P (T.put f e) := fun g e' hg => by
  rw [Tr.get_put] at hg
  split at hg
  · rename_i hgf; injection hg with hg; subst hg; subst hgf; exact h
  · exact hT g e' hg
noncomputable def tabOf (l : List (Nat × Ent)) (T : Tab) : Tab := @List.rec (Nat × Ent) (fun _ => Tab) T (fun p _ ih => Tr.put ih p.1 p.2) l
def EntsOk (P : Program) : List (Nat × Ent) → Prop
  | [] => True
  | p :: r => EntOk P p.1 p.2 ∧ EntsOk P r
theorem tabOf_ok {T : Tab} (hT : TabOk P T) : ∀ {l : List (Nat × Ent)}, EntsOk P l → TabOk P (tabOf l T)
  | [], _ => hT
  | p :: r, h => TabOk.put h.1 (tabOf_ok hT h.2)
def endR (e : AExit) (x : RS) : RS := match e with
  | .normal => x
  | .ret => x
  | _ => .no
noncomputable def outR (o : Out) (k : FT → HS → RS) : RS := @Out.rec (fun _ => RS) .no (fun e fr h => endR e (k fr h)) o
noncomputable def keepR (rs : List ARes) (fr : FT) (h : HS) : RS := @Option.rec AV (fun _ => RS) .no (fun v => .new v h) (retF rs h fr)
noncomputable def pureR (rs : List ARes) (n : Nat) (fr : FT) (h : HS) : RS := @Option.rec AV (fun _ => RS) .no (fun v => optR (freezeF h n 100 v)) (retF rs h fr)
def isTrunc (v : AV) (f : Nat → Nat → Nat → Nat → RS) : RS := match v with
  | .slc id tot 0 len sz => f id tot len sz
  | _ => .no
noncomputable def truncO (h0 h : HS) (id tot len sz : Nat) : RS := sel (Nat.ble h0.n id) (objK h id (fun t g m cs => sel g (sel (Nat.beq m tot) (sel (Nat.ble (Nat.mul len sz) m) (sel ((cs.take (len * sz)).all AV.plain) (.new (.slc h0.n (len * sz) 0 len sz) (newH h0 (.cells t true (lenF (cs.take (len * sz))) (cs.take (len * sz))))) .no) .no) .no) .no) .no) .no
noncomputable def truncR (rs : List ARes) (h0 : HS) (fr : FT) (h : HS) : RS := @Option.rec AV (fun _ => RS) .no (fun v => isTrunc v (truncO h0 h)) (retF rs h fr)
noncomputable def runCode (ih : Nat → CallF) (lo N : Nat) (F : AFunc) (mode : Nat) (args : List AV) (h : HS) : RS :=
  sel (Nat.ble (lenF args) F.nt) (sel (Nat.beq mode 2) (outR (execF F.code (ih h.n) h.n N (entryT args 0 .e) h) (truncR F.res h)) (sel (Nat.beq mode 1) (outR (execF F.code (ih lo) lo N (entryT args 0 .e) h) (keepR F.res)) (outR (execF F.code (ih h.n) h.n N (entryT args 0 .e) h) (pureR F.res h.n)))) .no
noncomputable def runEnt (ih : Nat → CallF) (lo N : Nat) (e : Ent) (args : List AV) (h : HS) : RS := @Ent.rec (fun _ => RS) (fun F mode => runCode ih lo N F mode args h) (fun g => optR (g args h)) e
noncomputable def runStep (ih : Nat → CallF) (lo N : Nat) (e : Option Ent) (args : List AV) (h : HS) : RS := @Option.rec Ent (fun _ => RS) .no (fun e => runEnt ih lo N e args h) e
noncomputable def runF (T : Tab) (N : Nat) (n : Nat) : Nat → CallF := @Nat.rec (fun _ => Nat → CallF) (fun lo f args h => .no) (fun _ ih lo f args h => runStep ih lo N (T.get f) args h) n
theorem runF_ok {T : Tab} (hT : TabOk P T) (N : Nat) : ∀ (n lo : Nat), CallsOk P lo (runF T N n lo)
  | 0, lo => fun f args h H r hl => trivial
  | n + 1, lo => fun f args h H r hl => by
    have ih := runF_ok hT N n
    show OkCall P lo f args H (runStep (runF T N n) lo N (T.get f) args h)
    cases hf : T.get f with
    | none => trivial
    | some e =>
      have he := hT f e hf
      cases e with
      | prim g =>
        show OkCall P lo f args H (optR (g args h))
        cases hg : g args h with
        | none => trivial
        | some v => exact he args h H v r hg
      | code F mode =>
        have he : IsFun P f F := he
        show OkCall P lo f args H (sel _ (sel (Nat.beq mode 2) _ (sel (Nat.beq mode 1) _ _)) .no)
        rw [sel_ble, lenF_eq]
        split
        · rename_i hn
          rw [sel_eq]
          split
          · have hx := execF_ok (ih h.n) N F.code (entryT args 0 .e) h H r (Nat.le_refl _)
            rw [entryT_fr] at hx
            cases ho : execF F.code (runF T N n h.n) h.n N (entryT args 0 .e) h with
            | no => trivial
            | ok e1 fr1 h1 =>
              rw [ho] at hx
              obtain ⟨H1, r1, p1, k⟩ := hx
              show OkCall P lo f args H (endR e1 (truncR F.res h fr1 h1))
              unfold truncR
              cases hv : retF F.res h1 fr1 with
              | none => cases e1 <;> trivial
              | some v =>
                have hv' := retF_ok r1 fr1 F.res hv
                show OkCall P lo f args H (endR e1 (isTrunc v (truncO h h1)))
                unfold isTrunc
                split
                rotate_left
                · cases e1 <;> trivial
                rename_i id tot len sz
                have hG : H1 = H ++ H1.drop H.length := by
                  apply List.ext_getElem?
                  intro i
                  by_cases hi : i < H.length
                  · rw [List.getElem?_append_left hi]; exact p1.2 i (by rw [← r.len]; exact hi)
                  · rw [List.getElem?_append_right (by omega), List.getElem?_drop]
                    congr 1; omega
                unfold truncO
                rw [sel_ble]
                split
                rotate_left
                · cases e1 <;> trivial
                rename_i hid
                rcases objK_cases r1 id (fun t g m cs => sel g (sel (Nat.beq m tot) (sel (Nat.ble (Nat.mul len sz) m) (sel ((cs.take (len * sz)).all AV.plain) (RS.new (.slc h.n (len * sz) 0 len sz) (newH h (.cells t true (lenF (cs.take (len * sz))) (cs.take (len * sz))))) .no) .no) .no) .no) RS.no with ⟨t, g, cs, b1, b2, _⟩ | ⟨b1, b2⟩
                rotate_left
                · rw [b2]; cases e1 <;> trivial
                rw [b2, sel_eq]
                split
                rotate_left
                · cases e1 <;> trivial
                rename_i hg
                subst hg
                rw [sel_beq]
                split
                rotate_left
                · cases e1 <;> trivial
                rename_i htot
                rw [sel_ble]
                split
                rotate_left
                · cases e1 <;> trivial
                rename_i hle
                have hle : len * sz ≤ cs.length := hle
                rw [sel_eq]
                split
                rotate_left
                · cases e1 <;> trivial
                rename_i hpl
                have hks : (cs.take (len * sz)).length = len * sz := by simp; omega
                have key : ∀ e, e1 = e → (e = .normal ∨ e = .ret) → ACall P f args H (.slc H.length (len * sz) 0 len sz) (H ++ [.cells t true (cs.take (len * sz))]) := by
                  rintro e rfl he1
                  refine acall_trunc he hn hks hpl (k _ ?_)
                  rcases he1 with rfl | rfl <;> exact ⟨id, tot, cs, _, hv', hG, by rw [r.len]; exact hid, b1, htot, by omega, rfl⟩
                have fin : ∀ e, e1 = e → (e = .normal ∨ e = .ret) → OkCall P lo f args H (.new (.slc h.n (len * sz) 0 len sz) (newH h (.cells t true (lenF (cs.take (len * sz))) (cs.take (len * sz))))) := by
                  intro e h1' h2'
                  refine ⟨_, r.new (o := .cells t true (lenF (cs.take (len * sz))) (cs.take (len * sz))) (lenF_eq _), ?_, .new r hl _⟩
                  have := key e h1' h2'
                  rw [← r.len]; exact this
                cases e1 <;> try trivial
                · exact fin _ rfl (.inl rfl)
                · exact fin _ rfl (.inr rfl)
          rw [sel_eq]
          split
          · have hx := execF_ok (ih lo) N F.code (entryT args 0 .e) h H r hl
            rw [entryT_fr] at hx
            cases ho : execF F.code (runF T N n lo) lo N (entryT args 0 .e) h with
            | no => trivial
            | ok e1 fr1 h1 =>
              rw [ho] at hx
              obtain ⟨H1, r1, p1, k⟩ := hx
              show OkCall P lo f args H (endR e1 (keepR F.res fr1 h1))
              unfold keepR
              cases hv : retF F.res h1 fr1 with
              | none => cases e1 <;> trivial
              | some v =>
                have hv' := retF_ok r1 fr1 F.res hv
                have key : ∀ e, e1 = e → (e = .normal ∨ e = .ret) → ACall P f args H v H1 := by
                  rintro e rfl he1
                  refine acall_keep he hn (k _ ?_)
                  rcases he1 with rfl | rfl <;> exact ⟨hv', rfl⟩
                cases e1 <;> try trivial
                · exact ⟨H1, r1, key _ rfl (.inl rfl), p1⟩
                · exact ⟨H1, r1, key _ rfl (.inr rfl), p1⟩
          · have hx := execF_ok (ih h.n) N F.code (entryT args 0 .e) h H r (Nat.le_refl _)
            rw [entryT_fr] at hx
            cases ho : execF F.code (runF T N n h.n) h.n N (entryT args 0 .e) h with
            | no => trivial
            | ok e1 fr1 h1 =>
              rw [ho] at hx
              obtain ⟨H1, r1, p1, k⟩ := hx
              show OkCall P lo f args H (endR e1 (pureR F.res h.n fr1 h1))
              unfold pureR
              cases hv : retF F.res h1 fr1 with
              | none => cases e1 <;> trivial
              | some v =>
                have hv' := retF_ok r1 fr1 F.res hv
                show OkCall P lo f args H (endR e1 (optR (freezeF h1 h.n 100 v)))
                rw [freezeF_eq r1]
                cases hz : freezeA H1 h.n 100 v with
                | none => cases e1 <;> trivial
                | some w =>
                  have hG : H1 = H ++ H1.drop H.length := by
                    apply List.ext_getElem?
                    intro i
                    by_cases hi : i < H.length
                    · rw [List.getElem?_append_left hi]; exact p1.2 i (by rw [← r.len]; exact hi)
                    · rw [List.getElem?_append_right (by omega), List.getElem?_drop]
                      congr 1; omega
                  have key : ∀ e, e1 = e → (e = .normal ∨ e = .ret) → ACall P f args H w H := by
                    rintro e rfl he1
                    refine acall_pure he hn (k _ ?_)
                    have hz' : freezeA H1 H.length 100 v = some w := by rw [r.len]; exact hz
                    rcases he1 with rfl | rfl <;> exact ⟨v, _, 100, hv', hG, hz'⟩
                  cases e1 <;> try trivial
                  · exact key _ rfl (.inl rfl)
                  · exact key _ rfl (.inr rfl)
        · trivial
theorem Rep.nil : Rep ⟨.e, 0⟩ [] := ⟨rfl, fun i => (by show (Tr.get Tr.e i).map EO.obj = _; rw [Tr.get_e]; rfl), fun i o h => (by have h : Tr.get Tr.e i = some o := h; rw [Tr.get_e] at h; cases h)⟩
/-- What the kernel runs is a contract: with nothing in the memory. -/
def isSame (r : RS) (f : AV → Bool) : Bool := match r with
  | .same v => f v
  | _ => false
theorem run_bool {T : Tab} (hT : TabOk P T) {N n : Nat} {f : FuncId} {args : List AV} {b : Bool} (h : isSame (runF T N n 0 f args ⟨.e, 0⟩) (fun v => isBool v (fun c => c == b) false) = true) : ACall P f args [] (.bool b) [] := by
  have hx := runF_ok hT N n 0 f args ⟨.e, 0⟩ [] .nil (Nat.zero_le _)
  cases hr : runF T N n 0 f args ⟨.e, 0⟩ with
  | no => rw [hr] at h; cases h
  | new v h' => rw [hr] at h; cases h
  | same v =>
    rw [hr] at h hx
    have h : isBool v (fun c => c == b) false = true := h
    cases v
    case bool c h0 =>
      have h : (c == b) = true := h
      rw [beq_iff_eq] at h; subst h; exact hx
    all_goals exact absurd h (by simp [isBool])
end
end Go.Proofs.Ah

