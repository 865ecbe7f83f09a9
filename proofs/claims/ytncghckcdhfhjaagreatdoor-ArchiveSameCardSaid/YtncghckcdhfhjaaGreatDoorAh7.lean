/- A region, its order drawn or not: what the abstract walk shows holds of the machine's. -/
import Derived.Test.YtncghckcdhfhjaaGreatDoorAh6
set_option linter.unusedVariables false
set_option maxHeartbeats 4000000
set_option linter.unusedSimpArgs false
namespace Go.Proofs.Ah
open Go

section
variable {P : Program} {B nt : Nat} {obj : Bool} {ops : Array Oper} {Q : Exit → Act → World → Prop} {K : AFrame → Heap → Prop}

theorem ops_sound : ∀ (is : List Nat) (l : List AOper), is.length = l.length → (∀ (k i : Nat), is[k]? = some i → ∃ (o : Oper) (x : AOper), ops[i]? = some o ∧ l[k]? = some x ∧ cOper P obj nt ops o = some x) →
    ∀ {μ H w fr a}, Sim B μ H w → FRn nt μ H w fr a → wpOpsA P l K fr H →
      (∀ μ' H' w' fr' a', K fr' H' → Sim B μ' H' w' → Ext μ H w μ' H' w' → FRn nt μ' H' w' fr' a' → Q .normal a' w') → wpOps P ops Q is a w
  | [], [], _, _, μ, H, w, fr, a, s, F, h, hQ => hQ _ _ _ _ _ h s (Ext.refl _ _ _) F
  | i :: is, x :: l, hl, hc, μ, H, w, fr, a, s, F, h, hQ => by
    obtain ⟨o, y, ho, hy, hx⟩ := hc 0 i (by simp)
    simp only [List.getElem?_cons_zero] at hy; injection hy with hy; subst hy
    obtain ⟨d1, d2, d3⟩ := cOper_dst hx
    have ih := fun {μ H w fr a} => ops_sound is l (by simpa using hl) (fun k i hk => hc (k + 1) i (by simpa using hk)) (μ := μ) (H := H) (w := w) (fr := fr) (a := a)
    rw [wpOps_cons]
    unfold wpOp
    simp only [ho]
    simp only [wpOpsA] at h
    split at h
    · rename_i hw
      rw [want_ok hx F hw, if_pos rfl]
      obtain ⟨v, H', h1, h2⟩ := h
      refine .inl (oper_wp s F.fr d3 h1 fun r μ' w' s' E V => ?_)
      exact ih s' ((F.mono E).putO (by rw [← d1] at d2; rw [← d1]; exact d2) V) (by rw [← d1]; exact h2) fun μ2 H2 w2 fr2 a2 k1 k2 k3 k4 => hQ _ _ _ _ _ k1 k2 (E.trans k3) k4
    · rename_i hw
      rw [want_ok hx F hw, if_neg (by simp)]
      exact ih s (F.putO (by rw [← d1] at d2; rw [← d1]; exact d2) (.tup [] #[] rfl (fun i h => by simp at h))) (by rw [← d1]; exact h) fun μ2 H2 w2 fr2 a2 k1 k2 k3 k4 => hQ _ _ _ _ _ k1 k2 k3 k4
    · cases h

/-! #### any order -/
def countF (a : Array Bool) : Nat := a.toList.countP (! ·)
theorem countF_set {a : Array Bool} {i : Nat} (h : a.getD i true = false) : countF (a.setIfInBounds i true) < countF a := by
  obtain ⟨l⟩ := a
  unfold countF
  simp only [List.setIfInBounds_toArray, Array.getD_eq_getD_getElem?, List.getElem?_toArray] at h ⊢
  induction l generalizing i with
  | nil => simp at h
  | cons x l ih =>
    cases i with
    | zero =>
      simp only [List.getElem?_cons_zero, Option.getD_some] at h; subst h
      simp
    | succ i =>
      simp only [List.getElem?_cons_succ] at h
      have := ih h
      simp only [List.set_cons_succ, List.countP_cons]
      omega
theorem countF_zero {a : Array Bool} (h : countF a = 0) (i : Nat) (hi : i < a.size) : a.getD i true = true := by
  unfold countF at h
  rw [List.countP_eq_zero] at h
  have := h a[i] (by simp)
  simp only [Bool.not_eq_true', Bool.not_eq_false, Bool.not_not] at this
  simp [Array.getD, hi, this]

theorem find_last {p : Nat → Prop} : ∀ (n : Nat), (∀ j, j < n → ¬ p j) ∨ ∃ j, j < n ∧ p j ∧ ∀ k, j < k → k < n → ¬ p k
  | 0 => .inl fun j h => by omega
  | n + 1 => by
    by_cases hp : p n
    · exact .inr ⟨n, by omega, hp, fun k h1 h2 => by omega⟩
    · rcases find_last n with h | ⟨j, h1, h2, h3⟩
      · refine .inl fun j hj => ?_
        by_cases e : j = n
        · subst e; exact hp
        · exact h j (by omega)
      · refine .inr ⟨j, by omega, h2, fun k k1 k2 => ?_⟩
        by_cases e : k = n
        · subst e; exact hp
        · exact h3 k k1 (by omega)
theorem find_first {p : Nat → Prop} (m : Nat) : ∀ (n : Nat), m ≤ n → (∀ j, m ≤ j → j < n → ¬ p j) ∨ ∃ j, m ≤ j ∧ j < n ∧ p j ∧ ∀ k, m ≤ k → k < j → ¬ p k
  | 0, h => .inl fun j h1 h2 => by omega
  | n + 1, h => by
    by_cases hmn : m = n + 1
    · exact .inl fun j h1 h2 => by omega
    rcases find_first (p := p) m n (by omega) with h | ⟨j, h1, h2, h3, h4⟩
    · by_cases hp : p n
      · exact .inr ⟨n, by omega, by omega, hp, fun k k1 k2 => h k k1 (by omega)⟩
      · refine .inl fun j k1 k2 => ?_
        by_cases e : j = n
        · subst e; exact hp
        · exact h j k1 (by omega)
    · exact .inr ⟨j, h1, by omega, h3, h4⟩

variable {l : List AOper} {cl : List (List Nat)} {V : Nat → AV} {HH : Nat → Heap} {W : Nat → Bool} {F : Nat → AFrame}

def isLoud (l : List AOper) (j : Nat) : Prop := ∃ p, l[j]? = some p ∧ p.op.loud = true

/-- What an order has reached. -/
structure Reach (l : List AOper) (cl : Nat → List Nat) (V : Nat → AV) (fr0 : AFrame) (listed : Array Bool) (m : Nat) (G : AFrame) : Prop where
  size : listed.size = l.length
  closed : ∀ i k, i < l.length → listed.getD i true = true → k ∈ cl i → listed.getD k true = true
  le : m ≤ l.length
  loud : ∀ i, isLoud l i → (listed.getD i true = true ↔ i < m)
  put : ∀ j p d, l[j]? = some p → p.dst = some d → listed.getD j true = true → G d = V j
  rest : ∀ t, (∀ j p, l[j]? = some p → p.dst = some t → listed.getD j true = false) → G t = fr0 t

theorem trace_quiet (T : Trace P l (withUn l cl 0 l) [] V HH W F) {m n : Nat} (hmn : m ≤ n) (hn : n ≤ l.length) (h : ∀ j, m ≤ j → j < n → ¬ (isLoud l j ∧ W j = true)) : HH n = HH m := by
  induction n with
  | zero => rw [Nat.le_zero.1 hmn]
  | succ n ih =>
    by_cases e : m = n + 1
    · rw [e]
    · rw [← ih (by omega) (by omega) fun j h1 h2 => h j h1 (by omega)]
      obtain ⟨p, hp⟩ : ∃ p, l[n]? = some p := ⟨l[n], List.getElem?_eq_getElem (by omega)⟩
      have hw : (withUn l cl 0 l)[n]? = some (p, unOf l cl n p) := by rw [withUn_get, hp]; simp
      cases hW : W n with
      | false => exact (T.skip n _ hw hW).2
      | true =>
        have := (T.op n _ hw hW).1
        have hl : ¬ p.op.loud = true := fun h' => h n (by omega) (by omega) ⟨⟨p, hp, h'⟩, hW⟩
        cases hx : p.op with
        | op x =>
          rw [hx] at this hl
          exact opS_quiet (by simpa [AO.loud] using hl) this
        | call f xs => rw [hx] at hl; simp [AO.loud] at hl
        | callv g xs => rw [hx] at hl; simp [AO.loud] at hl
        | bad => rw [hx] at hl; simp [AO.loud] at hl

theorem frame_put (D : DrawOk ops.toList l (fun i => cl.getD i [])) (T : Trace P l (withUn l cl 0 l) [] V HH W F) {j : Nat} {p : AOper} {d : Nat} (hp : l[j]? = some p) (hd : p.dst = some d) : ∀ n, j < n → n ≤ l.length → F n d = V j
  | 0, h, _ => by omega
  | n + 1, h, hn => by
    obtain ⟨q, hq⟩ : ∃ p, l[n]? = some p := ⟨l[n], List.getElem?_eq_getElem (by omega)⟩
    have hw : (withUn l cl 0 l)[n]? = some (q, unOf l cl n q) := by rw [withUn_get, hq]; simp
    rw [T.next n _ hw]
    by_cases e : j = n
    · subst e
      rw [hp] at hq; injection hq with hq; subst hq
      simp only [hd, updO, upd, if_true]
    · have ih := frame_put D T hp hd n (by omega) (by omega)
      cases hqd : q.dst with
      | none => simpa [updO] using ih
      | some d' =>
        by_cases hdd : d = d'
        · subst hdd
          exact (e (D.one n j q p d hq hp hd hqd)).elim
        · simp only [updO, upd, if_neg hdd]; exact ih
theorem frame_rest (T : Trace P l (withUn l cl 0 l) [] V HH W F) {t : Nat} : ∀ n, n ≤ l.length → (∀ j p, j < n → l[j]? = some p → p.dst ≠ some t) → F n t = F 0 t
  | 0, _, _ => rfl
  | n + 1, hn, h => by
    obtain ⟨q, hq⟩ : ∃ p, l[n]? = some p := ⟨l[n], List.getElem?_eq_getElem (by omega)⟩
    have hw : (withUn l cl 0 l)[n]? = some (q, unOf l cl n q) := by rw [withUn_get, hq]; simp
    rw [T.next n _ hw]
    have ih := frame_rest T n (by omega) fun j p h1 h2 => h j p (by omega) h2
    cases hqd : q.dst with
    | none => simpa [updO] using ih
    | some d' =>
      have hne : t ≠ d' := by rintro rfl; exact h n q (by omega) hq hqd
      simp only [updO, upd, if_neg hne]; exact ih

theorem reach_agree (D : DrawOk ops.toList l (fun i => cl.getD i [])) (T : Trace P l (withUn l cl 0 l) [] V HH W F) {listed : Array Bool} {m : Nat} {G : AFrame} (R : Reach l (fun i => cl.getD i []) V (F 0) listed m G)
    {i : Nat} {p : AOper} (hp : l[i]? = some p) (hall : ∀ k ∈ cl.getD i [], listed.getD k true = true) (hnot : listed.getD i true = false) {n : Nat} (hin : i ≤ n) (hn : n ≤ l.length) (hr : n = i ∨ p.op.read = true) : ∀ t ∈ p.ts, F n t = G t := by
  intro t ht
  by_cases h : ∃ (j : Nat) (q : AOper), l[j]? = some q ∧ q.dst = some t
  · obtain ⟨j, q, hq, hd⟩ := h
    rcases D.looks i j p q t hp hq hd ht with hj | ⟨hij, hcj, hnr⟩
    · rw [R.put j q t hq hd (hall j hj)]
      have := D.lt i (List.getElem?_eq_some_iff.1 hp).1 j hj
      exact frame_put D T hq hd n (by omega) hn
    · obtain rfl := hr.resolve_right hnr
      have uniq : ∀ (j' : Nat) (q' : AOper), l[j']? = some q' → q'.dst = some t → j' = j := fun j' q' h1 h2 => D.one j j' q q' t hq h1 h2 hd
      have hjl : listed.getD j true = false := by
        cases hb : listed.getD j true with
        | false => rfl
        | true =>
          have := R.closed j n (List.getElem?_eq_some_iff.1 hq).1 hb hcj
          rw [hnot] at this; cases this
      rw [R.rest t fun j' q' h1 h2 => by rw [uniq j' q' h1 h2]; exact hjl]
      exact frame_rest T n hn fun j' q' h1 h2 h3 => by have := uniq j' q' h2 h3; omega
  · have h' : ∀ (j : Nat) (q : AOper), l[j]? = some q → q.dst ≠ some t := fun j q h1 h2 => h ⟨j, q, h1, h2⟩
    rw [frame_rest T n hn fun j q _ => h' j q, R.rest t fun j q h1 h2 => (h' j q h1 h2).elim]

theorem wantA_congr {g : Option (Nat × Bool)} {f f' : AFrame} (h : ∀ t ∈ gTs g, f t = f' t) : wantA g f = wantA g f' := by
  cases g with
  | none => rfl
  | some x =>
    obtain ⟨t, b⟩ := x
    simp only [wantA]
    rw [h t (by simp [gTs])]

theorem opA_quiet {x : AO} (hl : ¬ x.loud = true) {fr H v H'} (h : OpA P x fr H v H') : H' = H := by
  cases x with
  | op x => exact opS_quiet (by simpa [AO.loud] using hl) h
  | call f xs => simp [AO.loud] at hl
  | callv g xs => simp [AO.loud] at hl
  | bad => simp [AO.loud] at hl
theorem opA_pure {x : AO} (hl : ¬ x.loud = true) (hr : ¬ x.read = true) {fr H v H'} (h : OpA P x fr H v H') (G : Heap) : OpA P x fr G v G := by
  cases x with
  | op x => exact opS_pure (by simpa [AO.loud] using hl) (by simpa [AO.read] using hr) h G
  | call f xs => simp [AO.loud] at hl
  | callv g xs => simp [AO.loud] at hl
  | bad => simp [AO.loud] at hl
theorem mem_ts {p : AOper} {t : Nat} (h : t ∈ p.op.ts) : t ∈ p.ts := by simp [AOper.ts, h]
theorem mem_gts {p : AOper} {t : Nat} (h : t ∈ gTs p.g) : t ∈ p.ts := by simp [AOper.ts, h]

/-- An operation that may be next does what it does in the text's order. -/
theorem reach_op (D : DrawOk ops.toList l (fun i => cl.getD i [])) (T : Trace P l (withUn l cl 0 l) [] V HH W F) {listed : Array Bool} {m : Nat} {G : AFrame} (R : Reach l (fun i => cl.getD i []) V (F 0) listed m G)
    {i : Nat} {p : AOper} (hp : l[i]? = some p) (hall : ∀ k ∈ cl.getD i [], listed.getD k true = true) (hnot : listed.getD i true = false) (hW : W i = true) :
    (p.op.loud = true → HH i = HH m ∧ OpA P p.op G (HH m) (V i) (HH (i + 1))) ∧ (¬ p.op.loud = true → OpA P p.op G (HH m) (V i) (HH m)) := by
  have hil : i < l.length := (List.getElem?_eq_some_iff.1 hp).1
  have hw : (withUn l cl 0 l)[i]? = some (p, unOf l cl i p) := by rw [withUn_get, hp]; simp
  obtain ⟨h1, h2⟩ := T.op i _ hw hW
  have hag := reach_agree D T R hp hall hnot (Nat.le_refl i) (by omega) (.inl rfl)
  have hil' : ¬ i < m → m ≤ i := by omega
  refine ⟨fun hl => ?_, fun hl => ?_⟩
  · have him : ¬ i < m := fun h => by
      have := (R.loud i ⟨p, hp, hl⟩).2 h
      rw [hnot] at this; cases this
    have hHH : HH i = HH m := trace_quiet T (hil' him) (by omega) fun j j1 j2 ⟨⟨q, hq, hql⟩, _⟩ => by
      have := (R.loud j ⟨q, hq, hql⟩).1 (hall j (D.loud i j p q hp hq hl hql j2))
      omega
    exact ⟨hHH, by rw [← hHH]; exact OpA_congr (fun t ht => hag t (mem_ts ht)) h1⟩
  · have e1 := opA_quiet hl h1
    rw [e1] at h1
    by_cases hr : p.op.read = true
    · by_cases him : m ≤ i
      · rcases find_first (p := fun j => isLoud l j ∧ W j = true) m i him with hno | ⟨j, j1, j2, ⟨⟨q, hq, hql⟩, _⟩, j4⟩
        · rw [← trace_quiet T him (by omega) hno]
          exact OpA_congr (fun t ht => hag t (mem_ts ht)) h1
        · have hnl : ¬ listed.getD j true = true := fun h => by
            have := (R.loud j ⟨q, hq, hql⟩).1 h
            omega
          have hun : j ∈ unOf l cl i p := by
            unfold unOf
            rw [List.mem_filter, List.mem_range]
            refine ⟨j2, ?_⟩
            rw [hq]
            have : ¬ j ∈ cl.getD i [] := fun h => hnl (hall j h)
            simp only [clash, hr, hql, Bool.and_true, Bool.or_true, Bool.true_and, Bool.not_eq_true', List.contains_eq_mem, decide_eq_false_iff_not]
            exact this
          have := h2 j hun
          unfold sideA at this
          rw [hq] at this
          simp only [List.nil_append] at this
          rw [if_neg hl] at this
          have hg : ((List.range i).map HH)[j]? = some (HH j) := by simp [j2]
          rw [hg] at this
          have e2 : HH j = HH m := trace_quiet T j1 (by omega) j4
          rw [← e2]
          exact OpA_congr (fun t ht => hag t (mem_ts ht)) this
      · have him : i < m := by omega
        have hnli : ¬ isLoud l i := fun ⟨q, hq, hql⟩ => by rw [hp] at hq; injection hq with hq; subst hq; exact hl hql
        rcases find_last (p := fun j => i < j ∧ isLoud l j ∧ W j = true) m with hno | ⟨j, j1, ⟨j2, ⟨q, hq, hql⟩, hWj⟩, j3⟩
        · have : HH m = HH i := trace_quiet T (by omega) R.le fun j a b => by
            by_cases e : j = i
            · subst e; exact fun h => hnli h.1
            · exact fun h => hno j b ⟨by omega, h⟩
          rw [this]
          exact OpA_congr (fun t ht => hag t (mem_ts ht)) h1
        · have e2 : HH m = HH (j + 1) := trace_quiet T (by omega) R.le fun k a b h => j3 k (by omega) b ⟨by omega, h⟩
          have hjl : listed.getD j true = true := (R.loud j ⟨q, hq, hql⟩).2 j1
          have hjlen : j < l.length := (List.getElem?_eq_some_iff.1 hq).1
          have hnc : ¬ i ∈ cl.getD j [] := fun h => by
            have := R.closed j i hjlen hjl h
            rw [hnot] at this; cases this
          have hun : i ∈ unOf l cl j q := by
            unfold unOf
            rw [List.mem_filter, List.mem_range]
            refine ⟨j2, ?_⟩
            rw [hp]
            simp only [clash, hr, hql, Bool.and_true, Bool.true_or, Bool.true_and, Bool.not_eq_true', List.contains_eq_mem, decide_eq_false_iff_not]
            exact hnc
          have hwj : (withUn l cl 0 l)[j]? = some (q, unOf l cl j q) := by rw [withUn_get, hq]; simp
          have := (T.op j _ hwj hWj).2 i hun
          unfold sideA at this
          rw [hp] at this
          simp only at this
          rw [if_pos hql] at this
          have hag2 := reach_agree D T R hp hall hnot (n := j) (by omega) (by omega) (.inr hr)
          have hwt : wantA p.g (F j) = some true := by
            rw [wantA_congr (f' := F i) fun t ht => (hag2 t (mem_gts ht)).trans (hag t (mem_gts ht)).symm, T.want i _ hw, hW]
          rw [hwt] at this
          cases hd : p.dst with
          | none => rw [hd] at this; exact this.elim
          | some d =>
            rw [hd] at this
            simp only at this
            rw [frame_put D T hp hd j j2 (by omega)] at this
            rw [e2]
            exact OpA_congr (fun t ht => hag2 t (mem_ts ht)) this
    · exact OpA_congr (fun t ht => hag t (mem_ts ht)) (opA_pure hl hr h1 _)

theorem getD_set {a : Array Bool} {i j : Nat} {d : Bool} (hi : i < a.size) : (a.setIfInBounds i true).getD j d = if j = i then true else a.getD j d := by
  by_cases e : j = i
  · subst e; simp [Array.getD, hi]
  · rw [if_neg e]; exact getD_set_ne d (Ne.symm e)
theorem getD_tf {a : Array Bool} {i : Nat} (h : a.getD i false = true) : a.getD i true = true := by
  simp only [Array.getD_eq_getD_getElem?] at h ⊢
  cases he : a[i]? with
  | none => rw [he] at h; simp at h
  | some b => rw [he] at h; simpa using h
theorem getD_ft {a : Array Bool} {i : Nat} (hi : i < a.size) (h : a.getD i true = true) : a.getD i false = true := by
  simp only [Array.getD_eq_getD_getElem?] at h ⊢
  rw [Array.getElem?_eq_getElem hi] at h ⊢
  simpa using h

theorem any_sound (hc : ops.toList.mapM (cOper P obj nt ops) = some l) (D : DrawOk ops.toList l (fun i => cl.getD i [])) (hsz : ops.size = l.length) (hops : ∀ (i : Nat) (o : Oper), ops[i]? = some o → ∃ p : AOper, l[i]? = some p ∧ cOper P obj nt ops o = some p) (T : Trace P l (withUn l cl 0 l) [] V HH W F)
    {μ0 : Nat → Pl} {w0 : World} (hQ : ∀ μ' w' fr' a', (∀ t, fr' t = F l.length t) → Sim B μ' (HH l.length) w' → Ext μ0 (HH 0) w0 μ' (HH l.length) w' → FRn nt μ' (HH l.length) w' fr' a' → Q .normal a' w') :
    ∀ (fuel : Nat) (listed : Array Bool) (m : Nat) (G : AFrame) (μ : Nat → Pl) (a : Act) (w : World), countF listed ≤ fuel → Reach l (fun i => cl.getD i []) V (F 0) listed m G → Sim B μ (HH m) w → Ext μ0 (HH 0) w0 μ (HH m) w → FRn nt μ (HH m) w G a →
      wpAny P .any ops Q fuel listed a w := by
  have fin : ∀ (listed : Array Bool) (m : Nat) (G : AFrame) (μ : Nat → Pl) (a : Act) (w : World), (∀ i, i < l.length → listed.getD i true = true) → Reach l (fun i => cl.getD i []) V (F 0) listed m G → Sim B μ (HH m) w → Ext μ0 (HH 0) w0 μ (HH m) w → FRn nt μ (HH m) w G a → Q .normal a w := by
    intro listed m G μ a w hall R s E Fr
    have hm : HH l.length = HH m := trace_quiet T R.le (Nat.le_refl _) fun j j1 j2 ⟨⟨q, hq, hql⟩, _⟩ => by
      have := (R.loud j ⟨q, hq, hql⟩).1 (hall j j2)
      omega
    refine hQ μ w G a (fun t => ?_) (by rw [hm]; exact s) (by rw [hm]; exact E) (by rw [hm]; exact Fr)
    by_cases h : ∃ (j : Nat) (q : AOper), l[j]? = some q ∧ q.dst = some t
    · obtain ⟨j, q, hq, hd⟩ := h
      have hj := (List.getElem?_eq_some_iff.1 hq).1
      rw [R.put j q t hq hd (hall j hj), frame_put D T hq hd _ hj (Nat.le_refl _)]
    · have h' : ∀ (j : Nat) (q : AOper), l[j]? = some q → q.dst ≠ some t := fun j q h1 h2 => h ⟨j, q, h1, h2⟩
      rw [frame_rest T _ (Nat.le_refl _) fun j q _ => h' j q, R.rest t fun j q h1 h2 => (h' j q h1 h2).elim]
  have ready_nil : ∀ (listed : Array Bool) (m : Nat) (G : AFrame), Reach l (fun i => cl.getD i []) V (F 0) listed m G → Region.ready .any ops listed = [] → ∀ i, i < l.length → listed.getD i true = true := by
    intro listed m G R hr i
    induction i using Nat.strongRecOn with
    | _ i ih =>
      intro hi
      by_cases hb : listed.getD i true = true
      · exact hb
      · exfalso
        obtain ⟨o, ho⟩ : ∃ o, ops[i]? = some o := ⟨ops[i]'(by omega), Array.getElem?_eq_getElem (by omega)⟩
        have : i ∈ Region.ready .any ops listed := by
          rw [mem_ready]
          refine ⟨by simpa using hb, o, ho, fun e he hbd => ?_⟩
          have hk : e.on ∈ bAfter o := List.mem_map.2 ⟨e, List.mem_filter.2 ⟨by simpa using he, hbd⟩, rfl⟩
          have hcl := D.after i o (by simpa using ho) hi _ hk
          have hlt := D.lt i hi _ hcl
          exact getD_ft (by rw [R.size]; omega) (ih e.on hlt (by omega))
        rw [hr] at this
        cases this
  intro fuel
  induction fuel with
  | zero =>
    intro listed m G μ a w hcnt R s E Fr
    have hall : ∀ i, i < l.length → listed.getD i true = true := fun i hi => countF_zero (by omega) i (by rw [R.size]; exact hi)
    refine ⟨?_, fin listed m G μ a w hall R s E Fr⟩
    cases hr : Region.ready .any ops listed with
    | nil => rfl
    | cons i rs =>
      have : i ∈ Region.ready .any ops listed := by rw [hr]; simp
      rw [mem_ready] at this
      obtain ⟨h0, o, ho, _⟩ := this
      have hi : i < l.length := by rw [← hsz]; exact (Array.getElem?_eq_some_iff.1 ho).1
      rw [hall i hi] at h0; cases h0
  | succ fuel ih =>
    intro listed m G μ a w hcnt R s E Fr
    refine ⟨fun hr => fin listed m G μ a w (ready_nil listed m G R hr) R s E Fr, fun i hi => ?_⟩
    rw [mem_ready] at hi
    obtain ⟨hnot, o, ho, hed⟩ := hi
    obtain ⟨p, hp, hcp⟩ := hops i o ho
    obtain ⟨d1, d2, d3⟩ := cOper_dst hcp
    have hil : i < l.length := (List.getElem?_eq_some_iff.1 hp).1
    have hall : ∀ k ∈ cl.getD i [], listed.getD k true = true := by
      have haf : ∀ k ∈ bAfter o, listed.getD k true = true := fun k hk => by
        obtain ⟨e, he, rfl⟩ := List.mem_map.1 hk
        rw [List.mem_filter] at he
        exact getD_tf (hed e (by simpa using he.1) he.2)
      intro k hk
      rcases D.via i o (by simpa using ho) hil k hk with h | ⟨j, hj, hkj⟩
      · exact haf k h
      · have hji := D.lt i hil j (D.after i o (by simpa using ho) hil j hj)
        exact R.closed j k (by omega) (haf j hj) hkj
    have hw : (withUn l cl 0 l)[i]? = some (p, unOf l cl i p) := by rw [withUn_get, hp]; simp
    have hag := reach_agree D T R hp hall hnot (Nat.le_refl i) (by omega) (.inl rfl)
    have hwt : wantA p.g G = some (W i) := by rw [← wantA_congr fun t ht => hag t (mem_gts ht)]; exact T.want i _ hw
    have hsize : i < listed.size := by rw [R.size]; exact hil
    have hcnt' : countF (listed.setIfInBounds i true) ≤ fuel := by have := countF_set hnot; omega
    have hR : ∀ m', m' ≤ l.length → (∀ j, isLoud l j → (j < m' ↔ j < m ∨ j = i)) → Reach l (fun i => cl.getD i []) V (F 0) (listed.setIfInBounds i true) m' (updO G p.dst (V i)) := by
      intro m' hm' hlm
      refine ⟨by simp [R.size], ?_, hm', ?_, ?_, ?_⟩
      · intro j k hj hlj hk
        rw [getD_set hsize] at hlj ⊢
        by_cases e : j = i
        · subst e
          split
          · rfl
          · exact hall k hk
        · rw [if_neg e] at hlj
          split
          · rfl
          · exact R.closed j k hj hlj hk
      · intro j hj
        rw [getD_set hsize, hlm j hj]
        by_cases e : j = i
        · simp [e]
        · simp only [if_neg e, e, or_false]; exact R.loud j hj
      · intro j q d hq hd hlj
        rw [getD_set hsize] at hlj
        by_cases e : j = i
        · subst e
          rw [hp] at hq; injection hq with hq; subst hq
          simp [hd, updO, upd]
        · rw [if_neg e] at hlj
          have hne : p.dst ≠ some d := fun h => e (D.one i j p q d hp hq hd h)
          rw [← R.put j q d hq hd hlj]
          cases hpd : p.dst with
          | none => rfl
          | some d' =>
            have : d ≠ d' := by rintro rfl; exact hne hpd
            simp [updO, upd, this]
      · intro t ht
        have h1 := ht i p hp
        rw [getD_set hsize, if_pos rfl] at h1
        have hpt : p.dst ≠ some t := fun h => by have := h1 h; cases this
        rw [← R.rest t fun j q hq hd => by
          have := ht j q hq hd
          rw [getD_set hsize] at this
          split at this
          · cases this
          · exact this]
        cases hpd : p.dst with
        | none => rfl
        | some d' =>
          have : t ≠ d' := by rintro rfl; exact hpt hpd
          simp [updO, upd, this]
    unfold wpOp
    simp only [ho]
    cases hW : W i with
    | false =>
      rw [hW] at hwt
      rw [want_ok hcp Fr hwt, if_neg (by simp)]
      obtain ⟨hV, hHH⟩ := T.skip i _ hw hW
      by_cases hl : p.op.loud = true
      · have him : ¬ i < m := fun h => by
          have := (R.loud i ⟨p, hp, hl⟩).2 h
          rw [hnot] at this; cases this
        have e1 : HH i = HH m := trace_quiet T (by omega) (by omega) fun j j1 j2 ⟨⟨q, hq, hql⟩, _⟩ => by
          have := (R.loud j ⟨q, hq, hql⟩).1 (hall j (D.loud i j p q hp hq hl hql j2))
          omega
        have e2 : HH (i + 1) = HH m := by rw [hHH, e1]
        have hR' := hR (i + 1) (by omega) fun j ⟨q, hq, hql⟩ => by
          constructor
          · intro h
            by_cases e : j = i
            · exact .inr e
            · exact .inl ((R.loud j ⟨q, hq, hql⟩).1 (hall j (D.loud i j p q hp hq hl hql (by omega))))
          · rintro (h | h) <;> omega
        rw [hV] at hR'
        refine ih _ (i + 1) _ μ _ w hcnt' hR' (by rw [e2]; exact s) (by rw [e2]; exact E) ?_
        rw [e2, ← d1]
        exact Fr.putO (by rw [d1]; exact d2) (.tup [] #[] rfl (fun i h => by simp at h))
      · have hR' := hR m R.le fun j ⟨q, hq, hql⟩ => by
          constructor
          · exact .inl
          · rintro (h | h)
            · exact h
            · subst h; rw [hp] at hq; injection hq with hq; subst hq; exact (hl hql).elim
        rw [hV] at hR'
        refine ih _ m _ μ _ w hcnt' hR' s E ?_
        rw [← d1]
        exact Fr.putO (by rw [d1]; exact d2) (.tup [] #[] rfl (fun i h => by simp at h))
    | true =>
      rw [hW] at hwt
      rw [want_ok hcp Fr hwt, if_pos rfl]
      obtain ⟨k1, k2⟩ := reach_op D T R hp hall hnot hW
      by_cases hl : p.op.loud = true
      · obtain ⟨e1, hop⟩ := k1 hl
        have him : ¬ i < m := fun h => by
          have := (R.loud i ⟨p, hp, hl⟩).2 h
          rw [hnot] at this; cases this
        have hR' := hR (i + 1) (by omega) fun j ⟨q, hq, hql⟩ => by
          constructor
          · intro h
            by_cases e : j = i
            · exact .inr e
            · exact .inl ((R.loud j ⟨q, hq, hql⟩).1 (hall j (D.loud i j p q hp hq hl hql (by omega))))
          · rintro (h | h) <;> omega
        refine .inl (oper_wp s Fr.fr d3 hop fun r μ' w' s' E' V' => ?_)
        refine ih _ (i + 1) _ μ' _ w' hcnt' hR' s' (E.trans E') ?_
        rw [← d1]
        exact (Fr.mono E').putO (by rw [d1]; exact d2) V'
      · have hR' := hR m R.le fun j ⟨q, hq, hql⟩ => by
          constructor
          · exact .inl
          · rintro (h | h)
            · exact h
            · subst h; rw [hp] at hq; injection hq with hq; subst hq; exact (hl hql).elim
        refine .inl (oper_wp s Fr.fr d3 (k2 hl) fun r μ' w' s' E' V' => ?_)
        refine ih _ m _ μ' _ w' hcnt' hR' s' (E.trans E') ?_
        rw [← d1]
        exact (Fr.mono E').putO (by rw [d1]; exact d2) V'

theorem mapM_get {α β : Type} {f : α → Option β} : ∀ {xs : List α} {ys : List β}, xs.mapM f = some ys → ys.length = xs.length ∧ ∀ (i : Nat) (x : α), xs[i]? = some x → ∃ y, ys[i]? = some y ∧ f x = some y
  | [], ys, h => by
    simp only [List.mapM_nil] at h
    injection h with h; subst h
    exact ⟨rfl, fun i x h => by simp at h⟩
  | x :: r, ys, h => by
    rw [List.mapM_cons] at h
    cases hx : f x with
    | none => rw [hx] at h; cases h
    | some y =>
      rw [hx] at h
      cases hr : r.mapM f with
      | none => rw [hr] at h; cases h
      | some zs =>
        rw [hr] at h
        injection h with h; subst h
        obtain ⟨k1, k2⟩ := mapM_get hr
        refine ⟨by simp [k1], fun i z hz => ?_⟩
        cases i with
        | zero => simp only [List.getElem?_cons_zero] at hz; injection hz with hz; subst hz; exact ⟨y, rfl, hx⟩
        | succ i => exact k2 i z (by simpa using hz)

theorem draw_sound {μ : Nat → Pl} {H : Heap} {w : World} {fr : AFrame} {a : Act} (hc : ops.toList.mapM (cOper P obj nt ops) = some l) (hD : drawOk ops.toList l cl = true) (s : Sim B μ H w) (Fr : FRn nt μ H w fr a) (h : wpDrawA P l (withUn l cl 0 l) [] K fr H)
    (hQ : ∀ μ' H' w' fr' a', K fr' H' → Sim B μ' H' w' → Ext μ H w μ' H' w' → FRn nt μ' H' w' fr' a' → Q .normal a' w') :
    wpAny P .any ops Q ops.size (Array.replicate ops.size false) a w := by
  obtain ⟨V, HH, W, F, e1, e2, hK, T⟩ := draw_trace _ _ _ _ h
  rw [withUn_len] at hK
  obtain ⟨k1, k2⟩ := mapM_get hc
  have hsz : ops.size = l.length := by rw [k1]; simp
  have D := drawOk_spec hD
  subst e1 e2
  refine any_sound hc D hsz (fun i o ho => k2 i o (by simpa using ho)) T (fun μ' w' fr' a' hf s' E' Fr' => ?_) _ _ 0 _ μ a w ?_ ?_ s (Ext.refl _ _ _) Fr
  · have : fr' = F l.length := funext hf
    subst this
    exact hQ _ _ _ _ _ hK s' E' Fr'
  · have : countF (Array.replicate ops.size false) ≤ (Array.replicate ops.size false).toList.length := List.countP_le_length
    simpa using this
  · refine ⟨by simp [hsz], ?_, Nat.zero_le _, ?_, ?_, fun t _ => rfl⟩
    · intro i k hi hl _
      rw [← hsz] at hi
      simp [Array.getD, hi] at hl
    · intro i ⟨p, hp, _⟩
      have hi : i < ops.size := by rw [hsz]; exact (List.getElem?_eq_some_iff.1 hp).1
      simp [Array.getD, hi]
    · intro j p d hp _ hl
      have hi : j < ops.size := by rw [hsz]; exact (List.getElem?_eq_some_iff.1 hp).1
      simp [Array.getD, hi] at hl
end
end Go.Proofs.Ah

