/- Lists of numbers in memory; what a function ends with; the rules as one set. -/
import Derived.Test.YtncghckcdhfhjaaGreatDoorAh14
set_option linter.unusedVariables false
set_option linter.unusedSimpArgs false
namespace Go.Proofs.Ah
open Go

/-- Numbers of one kind, as cells. -/
def nats (k : IntKind) (ws : List Nat) : List AV := ws.map (AV.nat k)
section
variable {fr : AFrame} {H : Heap} {k k' : IntKind} {ws vs : List Nat} {i v n : Nat}
theorem nats_len : (nats k ws).length = ws.length := by simp [nats]
theorem nats_get (h : i < ws.length) : (nats k ws)[i]? = some (.nat k (ws.getD i 0)) := by
  simp [nats, h]
theorem nats_set : (nats k ws).set i (.nat k v) = nats k (ws.set i v) := by simp [nats, List.map_set]
theorem nats_app : nats k ws ++ nats k vs = nats k (ws ++ vs) := by simp [nats]
theorem nats_drop : (nats k ws).drop i = nats k (ws.drop i) := by simp [nats]
theorem nats_take : (nats k ws).take i = nats k (ws.take i) := by simp [nats]
theorem nats_rep : List.replicate n (AV.nat k v) = nats k (List.replicate n v) := by simp [nats]
theorem nats_nil : nats k [] = [] := _root_.id rfl
theorem nats_cons : nats k (v :: ws) = .nat k v :: nats k ws := _root_.id rfl
theorem nats_one : (nats k ws).all AV.one = true := by simp [nats, AV.one, AV.nat]
theorem nats_splice : splice (nats k ws) i (nats k vs) = nats k (ws.take i ++ vs ++ ws.drop (i + vs.length)) := by simp [splice, nats]
theorem zrep_nat : ∀ n, zrep [AV.nat k v] n = nats k (List.replicate n v)
  | 0 => rfl
  | n + 1 => by simp [zrep, zrep_nat n, nats, List.replicate_succ]
theorem freezes_nats {G : Heap} {m j : Nat} : (nats k ws).mapM (freezeA G m (j + 1)) = some (nats k ws) := by
  induction ws with
  | nil => rfl
  | cons x r ih => rw [nats_cons, List.mapM_cons, ih]; rfl

/-! #### loads and stores -/
def load1 (o : Option AObj) (tot idx : Nat) (H : Heap) : Option (AV × Heap) := match o with
  | some (.cells _ _ cs) => if cs.length = tot then (match cs[idx]? with | some v => some (v, H) | none => none) else none
  | _ => none
def at1 (v : Option AV) (H : Heap) : Option (AV × Heap) := match v with
  | some v => some (v, H)
  | none => none
theorem at1_some (v : AV) : at1 (some v) H = some (v, H) := _root_.id rfl
theorem loadK_1 (id tot idx : Nat) : loadK H (.ptr id tot idx) 1 false = load1 H[id]? tot idx H := by
  cases h : H[id]? with
  | none => simp [loadK, loadA, readO, h, load1]
  | some o =>
    cases o with
    | map es => simp [loadK, loadA, readO, h, load1]
    | cells t g cs =>
      simp only [load1]
      split
      · rename_i hl
        cases hv : cs[idx]? with
        | none =>
          have hh : ¬ idx + 1 ≤ tot := by have := List.getElem?_eq_none_iff.1 hv; omega
          simp [loadK, loadA, readO, h, hl, hh]
        | some v => exact loadK_one h hl hv
      · rename_i hl
        simp [loadK, loadA, readO, h, hl]
theorem load1_cells {t : TypeId} {g : Bool} {cs : List AV} {tot idx : Nat} (h : cs.length = tot) : load1 (some (.cells t g cs)) tot idx H = at1 cs[idx]? H := by
  simp only [load1, h, if_true, at1]
def loadN (o : Option AObj) (tot idx n : Nat) (H : Heap) : Option (AV × Heap) := match o with
  | some (.cells _ _ cs) => if cs.length = tot then (if idx + n ≤ cs.length then some (.agg ((cs.drop idx).take n), H) else none) else none
  | _ => none
theorem loadK_n (id tot idx n : Nat) : loadK H (.ptr id tot idx) n true = loadN H[id]? tot idx n H := by
  cases h : H[id]? with
  | none => simp [loadK, loadA, readO, h, loadN]
  | some o =>
    cases o with
    | map es => simp [loadK, loadA, readO, h, loadN]
    | cells t g cs =>
      simp only [loadN]
      split
      · rename_i hl
        split
        · rename_i hn; exact loadK_agg h hl (by omega)
        · rename_i hn
          have hh : ¬ idx + n ≤ tot := by omega
          simp [loadK, loadA, readO, h, hl, hh]
      · rename_i hl
        simp [loadK, loadA, readO, h, hl]
theorem loadN_cells {t : TypeId} {g : Bool} {cs : List AV} {tot idx n : Nat} (h : cs.length = tot) (hn : idx + n ≤ tot) : loadN (some (.cells t g cs)) tot idx n H = some (.agg ((cs.drop idx).take n), H) := by
  simp only [loadN, h, if_true, hn]
theorem loadK_pim1 (cs : List AV) (j : Nat) : loadK H (.pim cs j) 1 false = at1 cs[j]? H := by
  cases hv : cs[j]? with
  | none =>
    have : ¬ j + 1 ≤ cs.length := by have := List.getElem?_eq_none_iff.1 hv; omega
    simp [loadK, loadA, this, at1]
  | some v => exact loadK_pim hv
theorem loadK_pimN (cs : List AV) (j n : Nat) (h : j + n ≤ cs.length) : loadK H (.pim cs j) n true = some (.agg ((cs.drop j).take n), H) := loadK_pimAgg h
def store1 (o : Option AObj) (id tot idx : Nat) (v : AV) (H : Heap) : Option (AV × Heap) := match o with
  | some (.cells t g cs) => if cs.length = tot ∧ idx < tot then some (.undef, H.set id (.cells t g (cs.set idx v))) else none
  | _ => none
theorem storeK_1 (id tot idx : Nat) (v : AV) (hv : v.one = true) : storeK H 1 (.ptr id tot idx) v = store1 H[id]? id tot idx v H := by
  have hc : v.cells = [v] := by cases v <;> first | rfl | simp [AV.one] at hv
  cases h : H[id]? with
  | none => simp [storeK, writeO, h, store1, hc]
  | some o =>
    cases o with
    | map es => simp [storeK, writeO, h, store1, hc]
    | cells t g cs =>
      simp only [store1]
      split
      · rename_i hl; exact storeK_one h hl.1 hl.2 hv
      · rename_i hl
        simp only [storeK, hc, List.length_cons, List.length_nil, Nat.zero_add, if_true, writeO, h]
        rw [if_neg]
        rintro ⟨h1, h2, h3⟩; exact hl ⟨h1, by omega⟩
theorem store1_cells {id tot idx : Nat} {t : TypeId} {g : Bool} {cs : List AV} (h : cs.length = tot) (hi : idx < tot) : store1 (some (.cells t g cs)) id tot idx (.nat k v) H = some (.undef, H.set id (.cells t g (cs.set idx (.nat k v)))) := by
  simp [store1, h, hi]
theorem store1_cells' {id tot idx : Nat} {t : TypeId} {g : Bool} {cs : List AV} {x : AV} (h : cs.length = tot) (hi : idx < tot) : store1 (some (.cells t g cs)) id tot idx x H = some (.undef, H.set id (.cells t g (cs.set idx x))) := by
  simp [store1, h, hi]
def storeN (o : Option AObj) (id tot idx n : Nat) (vs : List AV) (H : Heap) : Option (AV × Heap) := match o with
  | some (.cells t g cs) => if cs.length = tot ∧ vs.length = n ∧ idx + n ≤ tot then some (.undef, H.set id (.cells t g (splice cs idx vs))) else none
  | _ => none
theorem storeK_n (id tot idx n : Nat) (vs : List AV) (hv : vs.all AV.one = true) : storeK H n (.ptr id tot idx) (.agg vs) = storeN H[id]? id tot idx n vs H := by
  cases h : H[id]? with
  | none => simp [storeK, writeO, h, storeN, AV.cells]
  | some o =>
    cases o with
    | map es => simp [storeK, writeO, h, storeN, AV.cells]
    | cells t g cs =>
      simp only [storeN]
      split
      · rename_i hl; exact storeK_agg h hl.1 hl.2.1 hl.2.2 hv
      · rename_i hl
        by_cases hn : vs.length = n
        · have hneg : ¬ (cs.length = tot ∧ idx + (AV.agg vs).cells.length ≤ cs.length ∧ (AV.agg vs).cells.all AV.one = true) := by
            rintro ⟨h1, h2, h3⟩
            exact hl ⟨h1, hn, by simp only [AV.cells] at h2; omega⟩
          simp only [storeK, writeO, h, if_neg hneg]
          split <;> rfl
        · have hneg : ¬ ((AV.agg vs).cells.length = n) := hn
          simp only [storeK, if_neg hneg]
theorem storeN_cells {id tot idx n : Nat} {t : TypeId} {g : Bool} {cs vs : List AV} (h : cs.length = tot) (hn : vs.length = n) (hi : idx + n ≤ tot) : storeN (some (.cells t g cs)) id tot idx n vs H = some (.undef, H.set id (.cells t g (splice cs idx vs))) := by
  simp [storeN, h, hn, hi]
theorem splice_all (cs vs : List AV) (h : cs.length = vs.length) : splice cs 0 vs = vs := by simp [splice, ← h]

/-! #### slices of objects, appends -/
def totO (o : Option AObj) : Nat := (o.map AObj.tot).getD 0
theorem totAt_eq (i : Nat) : totAt H i = totO H[i]? := _root_.id rfl
theorem totO_cells (t : TypeId) (g : Bool) (cs : List AV) : totO (some (.cells t g cs)) = cs.length := _root_.id rfl
theorem iadSA_slcO {id tot off n sz a : Nat} : iadSA H (.slc id tot off n sz) (.nat k a) sz = if a < n ∧ totO H[id]? = tot then some (.ptr id tot (off + a * sz), H) else none := by
  by_cases h : a < n ∧ totO H[id]? = tot
  · rw [if_pos h]; exact iadSA_slc h.1 h.2
  · rw [if_neg h]
    simp only [iadSA, AV.nat, elemAddrA, Int.toNat_natCast]
    rw [if_neg]; · rfl
    rintro ⟨_, _, h1, h2⟩; exact h ⟨by omega, h2⟩
theorem if_true' {p : Prop} [Decidable p] {α : Type} {x y : α} (h : p) : (if p then x else y) = x := if_pos h

/-! #### what a function ends with -/
theorem retA_0 : retA [] fr H = some (.tup []) := _root_.id rfl
theorem retA_1 (n : Nat) : retA [.t n] fr H = some (fr n) := _root_.id rfl
theorem retA_2 (n m : Nat) : retA [.t n, .t m] fr H = some (.tup [fr n, fr m]) := _root_.id rfl
theorem retA_3 (n m l : Nat) : retA [.t n, .t m, .t l] fr H = some (.tup [fr n, fr m, fr l]) := _root_.id rfl
def cellRet (s : Option (AV × Heap)) : Option AV := s.map (·.1)
theorem retA_c (t n : Nat) (agg : Bool) : retA [.cell t n agg] fr H = cellRet (loadK H (fr t) n agg) := by
  simp only [retA, resAs, resA, loadK, cellRet]
  cases loadA H (fr t) n with
  | none => rfl
  | some vs =>
    simp only
    cases mkA agg vs <;> rfl
theorem cellRet_some (v : AV) : cellRet (some (v, H)) = some v := _root_.id rfl

/-- The end of a function that leaves the memory as it was. -/
def endP (rs : List ARes) (H : Heap) (r : AV) (fr1 : AFrame) (H1 : Heap) : Prop := ∃ v G k, retA rs fr1 H1 = some v ∧ H1 = H ++ G ∧ freezeA H1 H.length k v = some r
theorem endP_same {rs : List ARes} {r w : AV} (j : Nat) (h : retA rs fr H = some w) (hf : freezeA H H.length j w = some r) : endP rs H r fr H := ⟨w, [], j, h, by simp, hf⟩
theorem endP_new {rs : List ARes} {r w : AV} {G : Heap} (j : Nat) (h : retA rs fr (H ++ G) = some w) (hf : freezeA (H ++ G) H.length j w = some r) : endP rs H r fr (H ++ G) := ⟨w, G, j, h, rfl, hf⟩
theorem acallP {P : Program} {f : FuncId} {F : AFunc} (hF : IsFun P f F) {args : List AV} {r : AV} (hn : args.length ≤ F.nt) (h : wpS P F.code [] (endP F.res H r) (entryFr args) H) : ACall P f args H r H := acall_pure hF hn (wpS_of _ h)
/-- The end of a function that changes objects, or leaves new ones. -/
def endK (rs : List ARes) (r : AV) (H' : Heap) (fr1 : AFrame) (H1 : Heap) : Prop := retA rs fr1 H1 = some r ∧ H1 = H'
theorem acallK {P : Program} {f : FuncId} {F : AFunc} (hF : IsFun P f F) {args : List AV} {r : AV} {H' : Heap} (hn : args.length ≤ F.nt) (h : wpS P F.code [] (endK F.res r H') (entryFr args) H) : ACall P f args H r H' := acall_keep hF hn (wpS_of _ h)
theorem fz_nat {G : Heap} {m j v : Nat} : freezeA G m (j + 1) (.nat k v) = some (.nat k v) := _root_.id rfl
theorem fz_bool {G : Heap} {m j : Nat} {b : Bool} : freezeA G m (j + 1) (.bool b) = some (.bool b) := _root_.id rfl
theorem fz_str {G : Heap} {m j : Nat} {b : ByteArray} : freezeA G m (j + 1) (.str b) = some (.str b) := _root_.id rfl
theorem fz_nils {G : Heap} {m j : Nat} : freezeA G m (j + 1) .nils = some .nils := _root_.id rfl
theorem fz_agg_nats {G : Heap} {m j : Nat} : freezeA G m (j + 2) (.agg (nats k ws)) = some (.agg (nats k ws)) := by
  show (match (nats k ws).mapM (freezeA G m (j + 1)) with | some cs' => some (AV.agg cs') | none => none) = _
  rw [freezes_nats]
theorem fz_lst_nats {G : Heap} {m j n sz : Nat} {f : Bool} : freezeA G m (j + 2) (.lst n sz f (nats k ws)) = some (.lst n sz f (nats k ws)) := by
  show (match (nats k ws).mapM (freezeA G m (j + 1)) with | some cs' => some (AV.lst n sz f cs') | none => none) = _
  rw [freezes_nats]
def fzO (o : Option AObj) (G : Heap) (m j id tot off len sz : Nat) : Option AV := match o with
  | some (.cells _ g cs) => if cs.length = tot ∧ off + len * sz ≤ cs.length then match ((cs.drop off).take (len * sz)).mapM (freezeA G m j) with
        | some cs' => some (.lst len sz (!g && sz != 0 && off + len * sz == cs.length) cs')
        | none => none else none
  | _ => none
theorem fz_slc {G : Heap} {m j id tot off len sz : Nat} : freezeA G m (j + 1) (.slc id tot off len sz) = if id < m then some (.slc id tot off len sz) else fzO G[id]? G m j id tot off len sz := by
  simp only [freezeA]
  split
  · rfl
  · cases G[id]? with
    | none => rfl
    | some o => cases o <;> rfl
theorem fzO_nats {G : Heap} {m j id tot off len sz : Nat} {t : TypeId} {g : Bool} (h : ws.length = tot) (h' : off + len * sz ≤ ws.length) : fzO (some (.cells t g (nats k ws))) G m (j + 1) id tot off len sz = some (.lst len sz (!g && sz != 0 && off + len * sz == ws.length) (nats k ((ws.drop off).take (len * sz)))) := by
  simp only [fzO, nats_len, h, true_and, nats_drop, nats_take, freezes_nats]
  rw [if_pos (by omega)]
theorem fz_tup2 {G : Heap} {m j : Nat} {a b a' b' : AV} (h : freezeA G m j a = some a') (h' : freezeA G m j b = some b') : freezeA G m (j + 1) (.tup [a, b]) = some (.tup [a', b']) := by
  simp [freezeA, List.mapM_cons, h, h']
theorem fz_tup0 {G : Heap} {m j : Nat} : freezeA G m (j + 1) (.tup []) = some (.tup []) := _root_.id rfl
end

attribute [go_sem] upd_get entry_get ev_t ev_c updO_some updO_none opK_some callvK_fn condK_true condK_false guardK_true guardK_false wantA_some wantAV_true wantAV_false wantAV_tup wpS_skip wpS_ops wpS_draw wpS_seq wpS_cond wpS_block wpS_exit wpS_scope wpS_label wpS_goto wpS_ret popN_nil popN_code popN_blk popN_inv popN_scp popN_jmp popE_code popE_blk popE_inv popE_scp popE_jmp popG_code popG_blk popG_inv popG_jmp popR_nil popR_cons wpOps_nil wpOps_op wpOps_call wpOps_callv wpOps_guard drawE_nil drawE_op drawE_call drawE_callv drawE_guard drawX_same drawX_nil loudK_true loudK_false loud_mv loud_pick loud_alloc loud_box loud_build loud_lit loud_load loud_store loud_nilck loud_bin loud_eqb loud_eqg loud_eqn loud_un loud_toInt loud_toStr loud_s2b loud_b2s loud_mkfn loud_mks loud_sliceT loud_sliceS loud_slarr loud_faddr loud_field loud_iadS loud_iadA loud_idxS loud_idxA loud_ext loud_lenS loud_lenT loud_lenA loud_app loud_cpy loud_capS loud_mkmap loud_look loud_mset loud_mm
attribute [go_sem] add_i64 add_u8 add_u32 add_u64 mul_i64 mul_u32 mul_u64 sub_i64 sub_u32 sub_u64 sub_u8 quo_i64 quo_u64 rem_nat or_u32 and_u32 xor_u32 or_u64 and_u64 xor_u64 or_u8 and_u8 xor_u8 and_i64 or_i64 xor_i64 shl_u32 shl_u64 shl_u8 shl_i64 shr_nat lss_nat leq_nat gtr_nat geq_nat eql_nat neq_nat same_some not_bool
attribute [go_sem] opS_mv opS_pick pickA_bool opS_alloc opS_box boxA_nat boxA_lst boxA_slc boxA_str boxA_bool boxA_agg opS_build buildA_some opS_lit litA_false litA_true evParts_nil evParts_cons fillA_nil fillA_one one_nat one_lst one_slc one_str one_bool one_ptr one_nils one_nilp one_nilm one_nilf one_fn one_pim opS_load opS_store opS_nilck nilckA_ptr nilckA_pim nilckA_fn opS_bin opS_eqb eqbA_bool opS_eqg opS_eqn opS_un opS_toInt toInt_u8 toInt_u16 toInt_u32 toInt_u64 toInt_i64 opS_toStr toStrA_str opS_s2b s2bA_str opS_mkfn opS_mks mksA_nat opS_sliceT opS_sliceS opS_slarr bound_none bound_nat opS_faddr moveA_ptr moveA_pim opS_field opS_iadS iadSA_lst iadSA_slcO opS_iadA iadAA_nat opS_idxS opS_idxA idxAA_nat opS_ext extA_tup opS_lenS lenSA_nils lenSA_lst lenSA_slc opS_lenT lenTA_str opS_lenA opS_app opS_cpy opS_mm mm_min2 mm_max2
attribute [go_sem] heap_new heap_newk heap_set heap_setk nats_len nats_get nats_set nats_app nats_drop nats_take nats_rep nats_one nats_splice zrep_nat freezes_nats at1_some loadK_1 load1_cells loadK_n loadN_cells loadK_pim1 loadK_pimN storeK_1 store1_cells store1_cells' storeK_n storeN_cells totAt_eq totO_cells retA_0 retA_1 retA_2 retA_3 retA_c cellRet_some fz_nat fz_bool fz_str fz_nils fz_agg_nats fz_lst_nats fz_slc fzO_nats fz_tup0
attribute [go_sem] List.map_cons List.map_nil List.getD_cons_zero List.getD_cons_succ List.append_assoc List.cons_append List.nil_append List.length_append List.length_cons List.length_nil Nat.zero_add Nat.add_zero List.length_replicate List.getElem?_cons_zero List.getElem?_cons_succ List.set_cons_succ List.set_cons_zero Nat.mul_one List.length_set Option.map_none Option.map_some List.drop_zero List.take_zero List.take_of_length_le List.drop_of_length_le List.append_nil
end Go.Proofs.Ah

