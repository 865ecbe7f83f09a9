/- The abstract walk for the simplifier: one rule for each operation, on natural numbers. -/
import Derived.Test.YtncghckcdhfhjaaGreatDoorAh12
set_option linter.unusedVariables false
set_option linter.unusedSimpArgs false
namespace Go.Proofs.Ah
open Go

/-- A number that is no less than 0. -/
def AV.nat (k : IntKind) (n : Nat) : AV := .int k (n : Int)

/-! #### the frame -/
section
variable {P : Program} {fr : AFrame} {H H' : Heap} {v : AV}
theorem upd_get (d : Nat) (v : AV) (t : Nat) : upd fr d v t = if t = d then v else fr t := _root_.id rfl
theorem entry_get (args : List AV) (t : Nat) : entryFr args t = args.getD t (.tup []) := _root_.id rfl
theorem ev_t (n : Nat) : (Arg.t n).ev fr = fr n := _root_.id rfl
theorem ev_c (v : AV) : (Arg.c v).ev fr = v := _root_.id rfl
theorem updO_some (d : Nat) (v : AV) : updO fr (some d) v = upd fr d v := _root_.id rfl
theorem updO_none (v : AV) : updO fr none v = fr := _root_.id rfl

/-! #### what is done next waits -/
def opK (s : Option (AV × Heap)) (k : AV → Heap → Prop) : Prop := ∃ v H, s = some (v, H) ∧ k v H
@[congr] theorem opK_congr {s s' : Option (AV × Heap)} {k : AV → Heap → Prop} (h : s = s') : opK s k = opK s' k := by rw [h]
theorem opK_some (v : AV) (H : Heap) (k : AV → Heap → Prop) : opK (some (v, H)) k = k v H := by
  unfold opK; apply propext
  constructor
  · rintro ⟨v', H', h, hk⟩
    injection h with h; injection h with h1 h2; subst h1 h2; exact hk
  · exact fun h => ⟨v, H, rfl, h⟩
def callK (P : Program) (f : FuncId) (args : List AV) (H : Heap) (k : AV → Heap → Prop) : Prop := ∃ v H', ACall P f args H v H' ∧ k v H'
@[congr] theorem callK_congr {P P' : Program} {f f' : FuncId} {args args' : List AV} {H H' : Heap} {k : AV → Heap → Prop} (h0 : P = P') (h1 : f = f') (h2 : args = args') (h3 : H = H') : callK P f args H k = callK P' f' args' H' k := by rw [h0, h1, h2, h3]
theorem callK_of {f : FuncId} {args : List AV} {k : AV → Heap → Prop} (h : ACall P f args H v H') (hk : k v H') : callK P f args H k := ⟨v, H', h, hk⟩
def callvK (P : Program) (g : AV) (args : List AV) (H : Heap) (k : AV → Heap → Prop) : Prop := ∃ f cap, g = .fn f cap ∧ callK P f (args ++ cap) H k
@[congr] theorem callvK_congr {P P' : Program} {g g' : AV} {args args' : List AV} {H H' : Heap} {k : AV → Heap → Prop} (h0 : P = P') (h1 : g = g') (h2 : args = args') (h3 : H = H') : callvK P g args H k = callvK P' g' args' H' k := by rw [h0, h1, h2, h3]
theorem callvK_fn (f : FuncId) (cap args : List AV) (k : AV → Heap → Prop) : callvK P (.fn f cap) args H k = callK P f (args ++ cap) H k := by
  unfold callvK; apply propext
  constructor
  · rintro ⟨f', cap', h, hk⟩
    injection h with h1 h2; subst h1 h2; exact hk
  · exact fun h => ⟨f, cap, rfl, h⟩
def condK (c : AV) (x y : Prop) : Prop := ∃ b, c = .bool b ∧ (b = true → x) ∧ (b = false → y)
@[congr] theorem condK_congr {c c' : AV} {x y : Prop} (h : c = c') : condK c x y = condK c' x y := by rw [h]
theorem condK_true (x y : Prop) : condK (.bool true) x y = x := by
  unfold condK; apply propext
  constructor
  · rintro ⟨b, h, h1, h2⟩; injection h with h; exact h1 h.symm
  · exact fun h => ⟨true, rfl, (fun _ => h), (fun e => nomatch e)⟩
theorem condK_false (x y : Prop) : condK (.bool false) x y = y := by
  unfold condK; apply propext
  constructor
  · rintro ⟨b, h, h1, h2⟩; injection h with h; exact h2 h.symm
  · exact fun h => ⟨false, rfl, (fun e => nomatch e), fun _ => h⟩
theorem condK_split {b : Bool} {x y : Prop} (hx : b = true → x) (hy : b = false → y) : condK (.bool b) x y := ⟨b, rfl, hx, hy⟩
theorem condK_dec {p : Prop} [Decidable p] {x y : Prop} (hx : p → x) (hy : ¬p → y) : condK (.bool (decide p)) x y := ⟨_, rfl, fun h => hx (of_decide_eq_true h), fun h => hy (of_decide_eq_false h)⟩
theorem condK_not {p : Prop} [Decidable p] {x y : Prop} (hx : ¬ p → x) (hy : p → y) : condK (.bool (!decide p)) x y := ⟨_, rfl, fun h => hx (by simpa using h), fun h => hy (by simpa using h)⟩
def guardK (c : Option Bool) (x y : Prop) : Prop := match c with
  | some true => x
  | some false => y
  | none => False
@[congr] theorem guardK_congr {c c' : Option Bool} {x y : Prop} (h : c = c') : guardK c x y = guardK c' x y := by rw [h]
theorem guardK_true (x y : Prop) : guardK (some true) x y = x := _root_.id rfl
theorem guardK_false (x y : Prop) : guardK (some false) x y = y := _root_.id rfl
theorem guardK_dec {p : Prop} [Decidable p] {x y : Prop} (hx : p → x) (hy : ¬p → y) : guardK (some (decide p)) x y := by
  by_cases h : p
  · simp only [h, decide_true]; exact hx h
  · simp only [h, decide_false]; exact hy h
theorem guardK_not {p : Prop} [Decidable p] {x y : Prop} (hx : ¬ p → x) (hy : p → y) : guardK (some (!decide p)) x y := by
  by_cases h : p
  · simp only [h, decide_true]; exact hy h
  · simp only [h, decide_false]; exact hx h
def wantAV (v : AV) (want : Bool) : Option Bool := match v with
  | .bool b => some (b == want)
  | .tup [] => some false
  | _ => none
theorem wantA_some (t : Nat) (want : Bool) : wantA (some (t, want)) fr = wantAV (fr t) want := by
  simp only [wantA, wantAV]
  rfl
theorem wantAV_true (b : Bool) : wantAV (.bool b) true = some b := by cases b <;> rfl
theorem wantAV_false (b : Bool) : wantAV (.bool b) false = some (!b) := by cases b <;> rfl
theorem wantAV_tup (w : Bool) : wantAV (.tup []) w = some false := _root_.id rfl

/-! #### the code, with what comes behind it as a list -/
inductive KItem where
  | code (y : ACode)
  | blk (id : Nat)
  | inv (J : AFrame → Heap → Prop)
  | scp
  | jmp (l : Nat) (J : AFrame → Heap → Prop)
def kQ (P : Program) : List KItem → (AFrame → Heap → Prop) → APost
  | [], K => atEnd K
  | .code y :: r, K => thenA (wpA P y (kQ P r K)) (kQ P r K)
  | .blk id :: r, K => inBlockA id (kQ P r K)
  | .inv J :: r, K => thenA J (kQ P r K)
  | .scp :: r, K => noGotoA (kQ P r K)
  | .jmp l J :: r, K => jumpA l J (kQ P r K)
def wpS (P : Program) (c : ACode) (r : List KItem) (K : AFrame → Heap → Prop) (fr : AFrame) (H : Heap) : Prop := wpA P c (kQ P r K) fr H
def popN (P : Program) (r : List KItem) (K : AFrame → Heap → Prop) (fr : AFrame) (H : Heap) : Prop := kQ P r K .normal fr H
def popE (P : Program) (id : Nat) (r : List KItem) (K : AFrame → Heap → Prop) (fr : AFrame) (H : Heap) : Prop := kQ P r K (.exit id) fr H
def popG (P : Program) (l : Nat) (r : List KItem) (K : AFrame → Heap → Prop) (fr : AFrame) (H : Heap) : Prop := kQ P r K (.goto l) fr H
def popR (P : Program) (r : List KItem) (K : AFrame → Heap → Prop) (fr : AFrame) (H : Heap) : Prop := kQ P r K .ret fr H
section
variable {r : List KItem} {K : AFrame → Heap → Prop}
theorem wpS_skip : wpS P .skip r K fr H = popN P r K fr H := _root_.id rfl
theorem wpS_ops (l : List AOper) : wpS P (.ops l) r K fr H = wpOpsA P l (popN P r K) fr H := _root_.id rfl
theorem wpS_draw (all : List AOper) (l : List (AOper × List Nat)) : wpS P (.draw all l) r K fr H = wpDrawE P all l 0 (popN P r K) fr H := _root_.id rfl
theorem wpS_seq (x y : ACode) : wpS P (.seq x y) r K fr H = wpS P x (.code y :: r) K fr H := _root_.id rfl
theorem wpS_cond (c : Arg) (x y : ACode) : wpS P (.cond c x y) r K fr H = condK (c.ev fr) (wpS P x r K fr H) (wpS P y r K fr H) := _root_.id rfl
theorem wpS_block (id : Nat) (c : ACode) : wpS P (.block id c) r K fr H = wpS P c (.blk id :: r) K fr H := _root_.id rfl
theorem wpS_exit (id : Nat) : wpS P (.exit id) r K fr H = popE P id r K fr H := _root_.id rfl
theorem wpS_scope (c : ACode) : wpS P (.scope c) r K fr H = wpS P c (.scp :: r) K fr H := _root_.id rfl
theorem wpS_label (l : Nat) : wpS P (.label l) r K fr H = popN P r K fr H := _root_.id rfl
theorem wpS_goto (l : Nat) : wpS P (.goto l) r K fr H = popG P l r K fr H := _root_.id rfl
theorem wpS_ret : wpS P .ret r K fr H = popR P r K fr H := _root_.id rfl
theorem wpS_loop {c : ACode} (I : Nat → AFrame → Heap → Prop) (n : Nat) (h0 : I n fr H) (h : ∀ n fr H, I n fr H → wpS P c (.inv (fun fr' H' => ∃ m, m < n ∧ I m fr' H') :: r) K fr H) : wpS P (.loop c) r K fr H := ⟨I, n, h0, h⟩
theorem wpS_jump {l : Nat} {x y : ACode} (J : Nat → AFrame → Heap → Prop) (h0 : wpS P x (.jmp l (fun fr' H' => ∃ m, J m fr' H') :: r) K fr H) (h : ∀ n fr H, J n fr H → wpS P y (.jmp l (fun fr' H' => ∃ m, m < n ∧ J m fr' H') :: r) K fr H) : wpS P (.jump l x y) r K fr H := ⟨J, h0, h⟩
theorem popN_nil : popN P [] K fr H = K fr H := _root_.id rfl
theorem popN_code (y : ACode) : popN P (.code y :: r) K fr H = wpS P y r K fr H := _root_.id rfl
theorem popN_blk (id : Nat) : popN P (.blk id :: r) K fr H = popN P r K fr H := _root_.id rfl
theorem popN_inv (J : AFrame → Heap → Prop) : popN P (.inv J :: r) K fr H = J fr H := _root_.id rfl
theorem popN_scp : popN P (.scp :: r) K fr H = popN P r K fr H := _root_.id rfl
theorem popN_jmp (l : Nat) (J : AFrame → Heap → Prop) : popN P (.jmp l J :: r) K fr H = popN P r K fr H := _root_.id rfl
theorem popE_code (id : Nat) (y : ACode) : popE P id (.code y :: r) K fr H = popE P id r K fr H := _root_.id rfl
theorem popE_blk (id j : Nat) : popE P id (.blk j :: r) K fr H = if id = j then popN P r K fr H else popE P id r K fr H := by
  show (if id = j then kQ P r K .normal else kQ P r K (.exit id)) fr H = _
  split <;> rfl
theorem popE_inv (id : Nat) (J : AFrame → Heap → Prop) : popE P id (.inv J :: r) K fr H = popE P id r K fr H := _root_.id rfl
theorem popE_scp (id : Nat) : popE P id (.scp :: r) K fr H = popE P id r K fr H := _root_.id rfl
theorem popE_jmp (id l : Nat) (J : AFrame → Heap → Prop) : popE P id (.jmp l J :: r) K fr H = popE P id r K fr H := _root_.id rfl
theorem popG_code (id : Nat) (y : ACode) : popG P id (.code y :: r) K fr H = popG P id r K fr H := _root_.id rfl
theorem popG_blk (id j : Nat) : popG P id (.blk j :: r) K fr H = popG P id r K fr H := _root_.id rfl
theorem popG_inv (id : Nat) (J : AFrame → Heap → Prop) : popG P id (.inv J :: r) K fr H = popG P id r K fr H := _root_.id rfl
theorem popG_jmp (id l : Nat) (J : AFrame → Heap → Prop) : popG P id (.jmp l J :: r) K fr H = (id = l ∧ J fr H) := _root_.id rfl
theorem popR_nil : popR P [] K fr H = K fr H := _root_.id rfl
theorem popR_cons (x : KItem) : popR P (x :: r) K fr H = popR P r K fr H := by cases x <;> rfl
theorem wpS_of (c : ACode) (h : wpS P c [] K fr H) : wpA P c (atEnd K) fr H := h
end
theorem wpOps_nil {K : AFrame → Heap → Prop} : wpOpsA P [] K fr H = K fr H := _root_.id rfl
theorem wpOps_op {K : AFrame → Heap → Prop} (d : Option Nat) (x : AOp) (r : List AOper) : wpOpsA P (⟨d, .op x, none⟩ :: r) K fr H = opK (opS x fr H) (fun v H' => wpOpsA P r K (updO fr d v) H') := _root_.id rfl
theorem wpOps_call {K : AFrame → Heap → Prop} (d : Option Nat) (f : FuncId) (xs : List Arg) (r : List AOper) : wpOpsA P (⟨d, .call f xs, none⟩ :: r) K fr H = callK P f (xs.map (·.ev fr)) H (fun v H' => wpOpsA P r K (updO fr d v) H') := _root_.id rfl
theorem callv_eq {k : AV → Heap → Prop} (g : AV) (args : List AV) : (∃ v H', (∃ f cap, g = .fn f cap ∧ ACall P f (args ++ cap) H v H') ∧ k v H') = callvK P g args H k := by
  unfold callvK callK; apply propext
  constructor
  · rintro ⟨v, H', ⟨f, cap, h1, h2⟩, h3⟩; exact ⟨f, cap, h1, v, H', h2, h3⟩
  · rintro ⟨f, cap, h1, v, H', h2, h3⟩; exact ⟨v, H', ⟨f, cap, h1, h2⟩, h3⟩
theorem wpOps_callv {K : AFrame → Heap → Prop} (d : Option Nat) (g : Arg) (xs : List Arg) (r : List AOper) : wpOpsA P (⟨d, .callv g xs, none⟩ :: r) K fr H = callvK P (g.ev fr) (xs.map (·.ev fr)) H (fun v H' => wpOpsA P r K (updO fr d v) H') := callv_eq _ _
theorem wpOps_guard {K : AFrame → Heap → Prop} (d : Option Nat) (x : AO) (g : Nat × Bool) (r : List AOper) : wpOpsA P (⟨d, x, some g⟩ :: r) K fr H = guardK (wantA (some g) fr) (wpOpsA P (⟨d, x, none⟩ :: r) K fr H) (wpOpsA P r K (updO fr d (.tup [])) H) := by
  show (match wantA (some g) fr with | some true => _ | some false => _ | none => _) = _
  cases h : wantA (some g) fr with
  | none => rfl
  | some b => cases b <;> rfl
theorem drawA_E {all : List AOper} {K : AFrame → Heap → Prop} : ∀ (l : List (AOper × List Nat)) (m : Nat) (fr : AFrame) (H : Heap), wpDrawA P all l (List.replicate m H) K fr H → wpDrawE P all l m K fr H
  | [], m, fr, H, h => h
  | o :: r, m, fr, H, h => by
    have hrep : ∀ G : Heap, List.replicate m G ++ [G] = List.replicate (m + 1) G := fun G => by rw [← List.replicate_succ']
    simp only [wpDrawA] at h
    simp only [wpDrawE]
    split at h
    · rename_i hw
      rw [hw]
      obtain ⟨v, H', h1, h2, h3⟩ := h
      rw [hrep] at h3
      simp only
      split
      · exact ⟨v, H', h1, .inr ⟨h2, h3⟩⟩
      · rename_i hl
        have := opA_quiet hl h1
        subst this
        exact ⟨v, H', h1, drawA_E r _ _ _ h3⟩
    · rename_i hw
      rw [hrep] at h
      rw [hw]; exact drawA_E r _ _ _ h
    · cases h
theorem drawE_nil {K : AFrame → Heap → Prop} (all : List AOper) (m : Nat) : wpDrawE P all [] m K fr H = K fr H := _root_.id rfl
def drawX (P : Program) (all : List AOper) (un : List Nat) (r : List (AOper × List Nat)) (m : Nat) (o : AOper) (K : AFrame → Heap → Prop) (fr : AFrame) (H : Heap) (v : AV) (H' : Heap) : Prop :=
  (H' = H ∧ (∀ j ∈ un, sideA P all (List.replicate m H) fr o v H' j) ∧ wpDrawE P all r (m + 1) K (updO fr o.dst v) H') ∨
    ((∀ j ∈ un, sideA P all (List.replicate m H) fr o v H' j) ∧ wpDrawA P all r (List.replicate (m + 1) H) K (updO fr o.dst v) H')
def loudK (b : Bool) (x y : Prop) : Prop := if b = true then x else y
@[congr] theorem loudK_congr {b b' : Bool} {x y : Prop} (h : b = b') : loudK b x y = loudK b' x y := by rw [h]
theorem loudK_true (x y : Prop) : loudK true x y = x := by simp [loudK]
theorem loudK_false (x y : Prop) : loudK false x y = y := by simp [loudK]
theorem loud_mv (x : Arg) : (AOp.mv x).loud = false := _root_.id rfl
theorem loud_pick (c : Arg) (x : Arg) (y : Arg) : (AOp.pick c x y).loud = false := _root_.id rfl
theorem loud_alloc (t : TypeId) (zs : List AV) : (AOp.alloc t zs).loud = true := _root_.id rfl
theorem loud_box (t : TypeId) (x : Arg) : (AOp.box t x).loud = true := _root_.id rfl
theorem loud_build (zs : List AV) (ps : List (Nat × Nat × Arg)) : (AOp.build zs ps).loud = false := _root_.id rfl
theorem loud_lit (obj : Bool) (e : TypeId) (n : Nat) (sz : Nat) (zs : List AV) (ps : List (Nat × Nat × Arg)) : (AOp.lit obj e n sz zs ps).loud = obj := _root_.id rfl
theorem loud_load (n : Nat) (agg : Bool) (x : Arg) : (AOp.load n agg x).loud = false := _root_.id rfl
theorem loud_store (n : Nat) (x : Arg) (y : Arg) : (AOp.store n x y).loud = true := _root_.id rfl
theorem loud_nilck (x : Arg) : (AOp.nilck x).loud = false := _root_.id rfl
theorem loud_bin (op : BinOp) (x : Arg) (y : Arg) : (AOp.bin op x y).loud = false := _root_.id rfl
theorem loud_eqb (neg : Bool) (x : Arg) (y : Arg) : (AOp.eqb neg x y).loud = false := _root_.id rfl
theorem loud_eqg (neg : Bool) (gs : List Tag) (x : Arg) (y : Arg) : (AOp.eqg neg gs x y).loud = false := _root_.id rfl
theorem loud_eqn (k : NilKind) (op : BinOp) (x : Arg) (y : Arg) : (AOp.eqn k op x y).loud = false := _root_.id rfl
theorem loud_un (op : UnOp) (x : Arg) : (AOp.un op x).loud = false := _root_.id rfl
theorem loud_toInt (k : IntKind) (x : Arg) : (AOp.toInt k x).loud = false := _root_.id rfl
theorem loud_toStr (x : Arg) : (AOp.toStr x).loud = false := _root_.id rfl
theorem loud_s2b (e : TypeId) (x : Arg) : (AOp.s2b e x).loud = true := _root_.id rfl
theorem loud_b2s (x : Arg) : (AOp.b2s x).loud = false := _root_.id rfl
theorem loud_mkfn (f : FuncId) (cap : List Arg) : (AOp.mkfn f cap).loud = false := _root_.id rfl
theorem loud_mks (e : TypeId) (sz : Nat) (bytes : Nat) (zs : List AV) (l : Arg) (c : Arg) : (AOp.mks e sz bytes zs l c).loud = true := _root_.id rfl
theorem loud_sliceT (x : Arg) (lo : Option Arg) (hi : Option Arg) : (AOp.sliceT x lo hi).loud = false := _root_.id rfl
theorem loud_sliceS (sz : Nat) (x : Arg) (lo : Option Arg) (hi : Option Arg) : (AOp.sliceS sz x lo hi).loud = false := _root_.id rfl
theorem loud_slarr (n : Nat) (sz : Nat) (x : Arg) (lo : Option Arg) (hi : Option Arg) : (AOp.slarr n sz x lo hi).loud = false := _root_.id rfl
theorem loud_faddr (off : Nat) (x : Arg) : (AOp.faddr off x).loud = false := _root_.id rfl
theorem loud_field (off : Nat) (n : Nat) (agg : Bool) (x : Arg) : (AOp.field off n agg x).loud = false := _root_.id rfl
theorem loud_iadS (sz : Nat) (x : Arg) (i : Arg) : (AOp.iadS sz x i).loud = false := _root_.id rfl
theorem loud_iadA (n : Nat) (sz : Nat) (x : Arg) (i : Arg) : (AOp.iadA n sz x i).loud = false := _root_.id rfl
theorem loud_idxS (x : Arg) (i : Arg) : (AOp.idxS x i).loud = false := _root_.id rfl
theorem loud_idxA (n : Nat) (sz : Nat) (agg : Bool) (x : Arg) (i : Arg) : (AOp.idxA n sz agg x i).loud = false := _root_.id rfl
theorem loud_ext (x : Arg) (i : Nat) : (AOp.ext x i).loud = false := _root_.id rfl
theorem loud_lenS (x : Arg) : (AOp.lenS x).loud = false := _root_.id rfl
theorem loud_lenT (x : Arg) : (AOp.lenT x).loud = false := _root_.id rfl
theorem loud_lenA (n : Nat) : (AOp.lenA n).loud = false := _root_.id rfl
theorem loud_app (e : TypeId) (sz : Nat) (bytes : Nat) (x : Arg) (y : Arg) : (AOp.app e sz bytes x y).loud = true := _root_.id rfl
theorem loud_appM (e : TypeId) (sz bytes : Nat) (zs : List AV) (x n : Arg) : (AOp.appM e sz bytes zs x n).loud = true := _root_.id rfl
theorem loud_capS (x : Arg) : (AOp.capS x).loud = false := _root_.id rfl
theorem loud_mkmap : AOp.mkmap.loud = true := _root_.id rfl
theorem loud_look (kt : KeyT) (z : AV) (ok : Bool) (m x : Arg) : (AOp.look kt z ok m x).loud = false := _root_.id rfl
theorem loud_mset (kt : KeyT) (m x v : Arg) : (AOp.mset kt m x v).loud = true := _root_.id rfl
theorem loud_cpy (sz : Nat) (x : Arg) (y : Arg) : (AOp.cpy sz x y).loud = true := _root_.id rfl
theorem loud_mm (isMax : Bool) (x : Arg) (ys : List Arg) : (AOp.mm isMax x ys).loud = false := _root_.id rfl
theorem drawE_op {K : AFrame → Heap → Prop} (all : List AOper) (m : Nat) (d : Option Nat) (x : AOp) (un : List Nat) (r : List (AOper × List Nat)) : wpDrawE P all ((⟨d, .op x, none⟩, un) :: r) m K fr H =
    loudK x.loud (opK (opS x fr H) (fun v H' => drawX P all un r m ⟨d, .op x, none⟩ K fr H v H')) (opK (opS x fr H) (fun v H' => wpDrawE P all r (m + 1) K (updO fr d v) H')) := _root_.id rfl
theorem drawE_call {K : AFrame → Heap → Prop} (all : List AOper) (m : Nat) (d : Option Nat) (f : FuncId) (xs : List Arg) (un : List Nat) (r : List (AOper × List Nat)) : wpDrawE P all ((⟨d, .call f xs, none⟩, un) :: r) m K fr H =
    callK P f (xs.map (·.ev fr)) H (fun v H' => drawX P all un r m ⟨d, .call f xs, none⟩ K fr H v H') := _root_.id rfl
theorem drawE_callv {K : AFrame → Heap → Prop} (all : List AOper) (m : Nat) (d : Option Nat) (g : Arg) (xs : List Arg) (un : List Nat) (r : List (AOper × List Nat)) : wpDrawE P all ((⟨d, .callv g xs, none⟩, un) :: r) m K fr H =
    callvK P (g.ev fr) (xs.map (·.ev fr)) H (fun v H' => drawX P all un r m ⟨d, .callv g xs, none⟩ K fr H v H') := callv_eq _ _
theorem drawE_guard {K : AFrame → Heap → Prop} (all : List AOper) (m : Nat) (d : Option Nat) (x : AO) (g : Nat × Bool) (un : List Nat) (r : List (AOper × List Nat)) : wpDrawE P all ((⟨d, x, some g⟩, un) :: r) m K fr H =
    guardK (wantA (some g) fr) (wpDrawE P all ((⟨d, x, none⟩, un) :: r) m K fr H) (wpDrawE P all r (m + 1) K (updO fr d (.tup [])) H) := by
  show (match wantA (some g) fr with | some true => _ | some false => _ | none => _) = _
  cases h : wantA (some g) fr with
  | none => rfl
  | some b => cases b <;> rfl
theorem drawX_same {K : AFrame → Heap → Prop} (all : List AOper) (m : Nat) (o : AOper) (r : List (AOper × List Nat)) (v : AV) : drawX P all [] r m o K fr H v H = wpDrawE P all r (m + 1) K (updO fr o.dst v) H := by
  unfold drawX; apply propext
  constructor
  · rintro (⟨_, _, h⟩ | ⟨_, h⟩)
    · exact h
    · exact drawA_E _ _ _ _ h
  · exact fun h => .inl ⟨rfl, fun j hj => (by cases hj), h⟩
theorem drawX_nil {K : AFrame → Heap → Prop} (all : List AOper) (m : Nat) (o : AOper) (v : AV) : drawX P all [] [] m o K fr H v H' = K (updO fr o.dst v) H' := by
  unfold drawX; apply propext
  constructor
  · rintro (⟨_, _, h⟩ | ⟨_, h⟩) <;> exact h
  · exact fun h => .inr ⟨fun j hj => (by cases hj), h⟩
theorem drawX_ops {K : AFrame → Heap → Prop} {all : List AOper} {m : Nat} {o : AOper} {r : List (AOper × List Nat)} {v : AV} (hu : ∀ p ∈ r, p.2 = []) (h : wpOpsA P (fstsOf r) K (updO fr o.dst v) H') : drawX P all [] r m o K fr H v H' :=
  .inr ⟨fun j hj => (by cases hj), draw_of_ops r _ _ _ hu h⟩
theorem fstsOf_nil : fstsOf [] = [] := _root_.id rfl
theorem fstsOf_cons (o : AOper) (un : List Nat) (r : List (AOper × List Nat)) : fstsOf ((o, un) :: r) = o :: fstsOf r := _root_.id rfl
end
end Go.Proofs.Ah

