/- SHA-256 on numbers: as the walk shows it, and quickly for the kernel. -/
import Derived.Test.YtncghckcdhfhjaaGreatDoorAh24
import Derived.Test.YtncghckcdhfhjaaGreatDoorAh17
set_option linter.unusedVariables false
set_option linter.unusedSimpArgs false
namespace Go.Proofs.Ah
open Go

def rotr (x n : Nat) : Nat := (x >>> n ||| (x <<< (32 - n)) % 4294967296) % 4294967296
def be (b : List Nat) (i : Nat) : Nat := ((((b.getD (4 * i) 0 % 4294967296) <<< 24 % 4294967296 ||| (b.getD (4 * i + 1) 0 % 4294967296) <<< 16 % 4294967296) % 4294967296 ||| (b.getD (4 * i + 2) 0 % 4294967296) <<< 8 % 4294967296) % 4294967296 ||| b.getD (4 * i + 3) 0 % 4294967296) % 4294967296
def w1 (b : List Nat) : Nat → List Nat
  | 0 => List.replicate 64 0
  | i + 1 => (w1 b i).set i (be b i)
theorem w1_len (b : List Nat) : ∀ i, (w1 b i).length = 64
  | 0 => by simp [w1]
  | i + 1 => by simp [w1, w1_len b i]
def sig (x a b c : Nat) : Nat := ((rotr x a ^^^ rotr x b) % 4294967296 ^^^ x >>> c) % 4294967296
def wS (ws : List Nat) (i : Nat) : Nat :=
  (((ws.getD (i - 16) 0 + sig (ws.getD (i - 15) 0) 7 18 3) % 4294967296 + ws.getD (i - 7) 0) % 4294967296 + sig (ws.getD (i - 2) 0) 17 19 10) % 4294967296
def w2 (b : List Nat) : Nat → List Nat
  | 0 => w1 b 16
  | i + 1 => (w2 b i).set (i + 16) (wS (w2 b i) (i + 16))
theorem w2_len (b : List Nat) : ∀ i, (w2 b i).length = 64
  | 0 => by simp [w2, w1_len]
  | i + 1 => by simp [w2, w2_len b i]
def shaK : List Nat := [
  0x428a2f98, 0x71374491, 0xb5c0fbcf, 0xe9b5dba5, 0x3956c25b, 0x59f111f1, 0x923f82a4, 0xab1c5ed5, 0xd807aa98, 0x12835b01, 0x243185be, 0x550c7dc3, 0x72be5d74, 0x80deb1fe, 0x9bdc06a7, 0xc19bf174,
  0xe49b69c1, 0xefbe4786, 0x0fc19dc6, 0x240ca1cc, 0x2de92c6f, 0x4a7484aa, 0x5cb0a9dc, 0x76f988da, 0x983e5152, 0xa831c66d, 0xb00327c8, 0xbf597fc7, 0xc6e00bf3, 0xd5a79147, 0x06ca6351, 0x14292967,
  0x27b70a85, 0x2e1b2138, 0x4d2c6dfc, 0x53380d13, 0x650a7354, 0x766a0abb, 0x81c2c92e, 0x92722c85, 0xa2bfe8a1, 0xa81a664b, 0xc24b8b70, 0xc76c51a3, 0xd192e819, 0xd6990624, 0xf40e3585, 0x106aa070,
  0x19a4c116, 0x1e376c08, 0x2748774c, 0x34b0bcb5, 0x391c0cb3, 0x4ed8aa4a, 0x5b9cca4f, 0x682e6ff3, 0x748f82ee, 0x78a5636f, 0x84c87814, 0x8cc70208, 0x90befffa, 0xa4506ceb, 0xbef9a3f7, 0xc67178f2]
/-- What is added in a round: to the fifth, and the first. -/
def mixOne (v : List Nat) (k w : Nat) : Nat :=
  ((((v.getD 7 0 + ((rotr (v.getD 4 0) 6 ^^^ rotr (v.getD 4 0) 11) % 4294967296 ^^^ rotr (v.getD 4 0) 25) % 4294967296) % 4294967296 + ((v.getD 4 0 &&& v.getD 5 0) % 4294967296 ^^^ ((4294967295 ^^^ v.getD 4 0) % 4294967296 &&& v.getD 6 0) % 4294967296) % 4294967296) % 4294967296 + k) % 4294967296 + w) % 4294967296
def mixTwo (v : List Nat) : Nat :=
  (((rotr (v.getD 0 0) 2 ^^^ rotr (v.getD 0 0) 13) % 4294967296 ^^^ rotr (v.getD 0 0) 22) % 4294967296 + (((v.getD 0 0 &&& v.getD 1 0) % 4294967296 ^^^ (v.getD 0 0 &&& v.getD 2 0) % 4294967296) % 4294967296 ^^^ (v.getD 1 0 &&& v.getD 2 0) % 4294967296) % 4294967296) % 4294967296
/-- The lists of a round as the code writes them: all but the first moved up; two sums. -/
def mixMove (v : List Nat) : List Nat := v.take 1 ++ v.take 7
def mixRound (v : List Nat) (k w : Nat) : List Nat :=
  ((mixMove v).set 4 (((mixMove v).getD 4 0 + mixOne v k w) % 4294967296)).set 0 ((mixOne v k w + mixTwo v) % 4294967296)
def mixR (h ws : List Nat) : Nat → List Nat
  | 0 => h
  | i + 1 => mixRound (mixR h ws i) (shaK.getD i 0) (ws.getD i 0)
theorem mixMove_len {v : List Nat} (h : v.length = 8) : (mixMove v).length = 8 := by simp [mixMove, h]
theorem mixMove_eq (v : List Nat) : List.take 1 v ++ List.take (min (7 - 0) (8 - 1)) (List.take (7 - 0) v) = mixMove v := by simp [mixMove, List.take_take]
theorem mixR_len {h ws : List Nat} (hh : h.length = 8) : ∀ i, (mixR h ws i).length = 8
  | 0 => hh
  | i + 1 => by simp [mixR, mixRound, mixMove_len (mixR_len hh i)]
def mixA (h v : List Nat) : Nat → List Nat
  | 0 => h
  | i + 1 => (mixA h v i).set i (((mixA h v i).getD i 0 + v.getD i 0) % 4294967296)
theorem mixA_len {h v : List Nat} (hh : h.length = 8) : ∀ i, (mixA h v i).length = 8
  | 0 => hh
  | i + 1 => by simp [mixA, mixA_len hh i]
/-- 64 bytes turned into the sum. -/
def mix (h b : List Nat) : List Nat := mixA h (mixR h (w2 b 48) 64) 8
theorem mix_len {h b : List Nat} (hh : h.length = 8) : (mix h b).length = 8 := mixA_len hh 8

/-! #### the same, for the kernel -/
noncomputable def getN (l : List Nat) (i : Nat) : Nat := @Option.rec Nat (fun _ => Nat) 0 (fun n => n) (nth l i)
theorem getN_eq (l : List Nat) (i : Nat) : getN l i = l.getD i 0 := by
  unfold getN
  rw [nth_eq, List.getD_eq_getElem?_getD]
  cases l[i]? <;> rfl
def md (n : Nat) : Nat := Nat.mod n 4294967296
noncomputable def beF (b : List Nat) (i : Nat) : Nat := natK (Nat.mul 4 i) fun j => md (Nat.lor (md (Nat.lor (md (Nat.lor (md (Nat.shiftLeft (md (getN b j)) 24)) (md (Nat.shiftLeft (md (getN b (Nat.add j 1))) 16)))) (md (Nat.shiftLeft (md (getN b (Nat.add j 2))) 8)))) (md (getN b (Nat.add j 3))))
theorem beF_eq (b : List Nat) (i : Nat) : beF b i = be b i := by
  unfold beF
  rw [natK_eq]
  simp only [getN_eq]
  rfl
def rotF (x n : Nat) : Nat := md (Nat.lor (Nat.shiftRight x n) (md (Nat.shiftLeft x (Nat.sub 32 n))))
def sigF (x a b c : Nat) : Nat := md (Nat.xor (md (Nat.xor (rotF x a) (rotF x b))) (Nat.shiftRight x c))
noncomputable def wSF (ws : List Nat) (i : Nat) : Nat := natK (getN ws (Nat.sub i 15)) fun x => natK (getN ws (Nat.sub i 2)) fun y =>
  md (Nat.add (md (Nat.add (md (Nat.add (getN ws (Nat.sub i 16)) (sigF x 7 18 3))) (getN ws (Nat.sub i 7)))) (sigF y 17 19 10))
theorem wSF_eq (ws : List Nat) (i : Nat) : wSF ws i = wS ws i := by
  unfold wSF
  rw [natK_eq, natK_eq]
  simp only [getN_eq]
  rfl
noncomputable def w1F (b : List Nat) (n : Nat) : List Nat := @Nat.rec (fun _ => List Nat) (List.replicate 64 0) (fun i ih => natK (beF b i) fun w => setL ih w i) n
theorem w1F_eq (b : List Nat) : ∀ n, w1F b n = w1 b n
  | 0 => rfl
  | n + 1 => by
    show natK (beF b n) (fun w => setL (w1F b n) w n) = _
    rw [natK_eq, setL_eq, w1F_eq b n, beF_eq]; rfl
noncomputable def w2S (ws : List Nat) (i : Nat) : List Nat := natK (wSF ws i) fun w => setL ws w i
noncomputable def w2F (b : List Nat) (n : Nat) : List Nat := @Nat.rec (fun _ => List Nat) (w1F b 16) (fun i ih => w2S ih (Nat.add i 16)) n
theorem w2F_eq (b : List Nat) : ∀ n, w2F b n = w2 b n
  | 0 => w1F_eq b 16
  | n + 1 => by
    show w2S (w2F b n) (n + 16) = _
    unfold w2S
    rw [natK_eq, setL_eq, w2F_eq b n, wSF_eq]; rfl
noncomputable def mixRF (v : List Nat) (k w : Nat) : List Nat :=
  natK (getN v 0) fun a => natK (getN v 1) fun b => natK (getN v 2) fun c => natK (getN v 4) fun e => natK (getN v 5) fun f => natK (getN v 6) fun g =>
  natK (md (Nat.add (md (Nat.add (md (Nat.add (md (Nat.add (getN v 7) (md (Nat.xor (md (Nat.xor (rotF e 6) (rotF e 11))) (rotF e 25))))) (md (Nat.xor (md (Nat.land e f)) (md (Nat.land (md (Nat.xor 4294967295 e)) g)))))) k)) w)) fun one =>
  natK (md (Nat.add one (md (Nat.add (md (Nat.xor (md (Nat.xor (rotF a 2) (rotF a 13))) (rotF a 22))) (md (Nat.xor (md (Nat.xor (md (Nat.land a b)) (md (Nat.land a c)))) (md (Nat.land b c)))))))) fun x0 =>
  natK (md (Nat.add (getN v 3) one)) fun x4 => [x0, a, b, c, x4, e, f, g]
theorem len8 {v : List Nat} (h : v.length = 8) : ∃ a b c d e f g i, v = [a, b, c, d, e, f, g, i] := by
  match v, h with
  | [a, b, c, d, e, f, g, i], _ => exact ⟨a, b, c, d, e, f, g, i, rfl⟩
theorem mixRF_eq {v : List Nat} (h : v.length = 8) (k w : Nat) : mixRF v k w = mixRound v k w := by
  obtain ⟨a, b, c, d, e, f, g, i, rfl⟩ := len8 h
  unfold mixRF
  simp only [natK_eq]
  rfl
noncomputable def mixAll (h ws : List Nat) (n : Nat) : List Nat := @Nat.rec (fun _ => List Nat) h (fun i ih => mixRF ih (getN shaK i) (getN ws i)) n
theorem mixAll_eq {h ws : List Nat} (hh : h.length = 8) : ∀ n, mixAll h ws n = mixR h ws n
  | 0 => rfl
  | n + 1 => by
    show mixRF (mixAll h ws n) (getN shaK n) (getN ws n) = _
    rw [mixAll_eq hh n, mixRF_eq (mixR_len hh n), getN_eq, getN_eq]; rfl
noncomputable def addF (h v : List Nat) : List Nat := natK (md (Nat.add (getN h 0) (getN v 0))) fun a => natK (md (Nat.add (getN h 1) (getN v 1))) fun b => natK (md (Nat.add (getN h 2) (getN v 2))) fun c => natK (md (Nat.add (getN h 3) (getN v 3))) fun d =>
  natK (md (Nat.add (getN h 4) (getN v 4))) fun e => natK (md (Nat.add (getN h 5) (getN v 5))) fun f => natK (md (Nat.add (getN h 6) (getN v 6))) fun g => natK (md (Nat.add (getN h 7) (getN v 7))) fun i => [a, b, c, d, e, f, g, i]
theorem addF_eq {h v : List Nat} (hh : h.length = 8) : addF h v = mixA h v 8 := by
  obtain ⟨a, b, c, d, e, f, g, i, rfl⟩ := len8 hh
  unfold addF
  simp only [natK_eq, getN_eq]
  rfl
noncomputable def mixK (h b : List Nat) : List Nat := addF h (mixAll h (w2F b 48) 64)
theorem mixK_eq {h b : List Nat} (hh : h.length = 8) : mixK h b = mix h b := by
  unfold mixK mix
  rw [addF_eq hh, mixAll_eq hh, w2F_eq]
noncomputable def natsR (k : IntKind) (ws : List Nat) : List AV := @List.rec Nat (fun _ => List AV) [] (fun n _ ih => .int k (.ofNat n) :: ih) ws
theorem natsR_eq (k : IntKind) : ∀ ws, natsR k ws = nats k ws
  | [] => rfl
  | w :: r => by
    show AV.int k (.ofNat w) :: natsR k r = _
    rw [natsR_eq k r]; rfl
/-- The machine's mix. -/
noncomputable def mixP (args : List AV) : Option AV := match args with
  | [x, y] => isAgg x (fun cs => isLst y (fun n sz _ ds => sel (Nat.beq n 64) (sel (Nat.beq sz 1) (sel (Nat.beq (lenF cs) 8) (sel (Nat.beq (lenF ds) 64)
      (@Option.rec (List Nat) (fun _ => Option AV) none (fun h => @Option.rec (List Nat) (fun _ => Option AV) none (fun b => some (.agg (natsR .u32 (mixK h b)))) (natsF 4 ds)) (natsF 6 cs)) none) none) none) none) none) none
  | _ => none
theorem mixP_ok {args : List AV} {r : AV} (h : mixP args = some r) : ∃ hs bs f, args = [.agg (nats .u32 hs), .lst 64 1 f (nats .u8 bs)] ∧ hs.length = 8 ∧ bs.length = 64 ∧ r = .agg (nats .u32 (mix hs bs)) := by
  unfold mixP at h
  split at h
  · rename_i x y
    cases x <;> try cases h
    case agg cs =>
      cases y <;> try cases h
      case lst n sz f ds =>
        have q : sel (Nat.beq n 64) (sel (Nat.beq sz 1) (sel (Nat.beq (lenF cs) 8) (sel (Nat.beq (lenF ds) 64)
          (@Option.rec (List Nat) (fun _ => Option AV) none (fun h => @Option.rec (List Nat) (fun _ => Option AV) none (fun b => some (.agg (natsR .u32 (mixK h b)))) (natsF 4 ds)) (natsF 6 cs)) none) none) none) none = some r := h
        clear h
        rw [sel_beq] at q
        split at q
        · rename_i h1; subst h1
          rw [sel_beq] at q
          split at q
          · rename_i h2; subst h2
            rw [sel_beq, lenF_eq] at q
            split at q
            · rename_i h3
              rw [sel_beq, lenF_eq] at q
              split at q
              · rename_i h4
                cases e1 : natsF 6 cs with
                | none => rw [e1] at q; cases q
                | some hs =>
                  rw [e1] at q
                  cases e2 : natsF 4 ds with
                  | none => rw [e2] at q; cases q
                  | some bs =>
                    rw [e2] at q
                    have c1 := natsF_ok (k := .u32) e1
                    have c2 := natsF_ok (k := .u8) e2
                    subst c1 c2
                    rw [nats_len] at h3 h4
                    have q : some (AV.agg (natsR .u32 (mixK hs bs))) = some r := q
                    injection q with q
                    exact ⟨hs, bs, f, rfl, h3, h4, by rw [← q, natsR_eq, mixK_eq h3]⟩
              · cases q
            · cases q
          · cases q
        · cases q
  · cases h
end Go.Proofs.Ah

