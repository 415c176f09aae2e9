import Derived.Test.YtljkjdhkofbgmaaDoorTab
import Derived.Test.YtljkjdhkofbgmaaDoorAv21
namespace Go.Proofs.YtljkjdhkofbgmaaDoor.Av
open Go
set_option linter.all false
set_option maxRecDepth 3000

/-! layer 3: what the code computes -/
def rotF (x : BitVec 32) (k : Int) : BitVec 32 := x <<< (BitVec.ofInt 64 k &&& 31#64).toNat ||| x >>> (32#64 - (BitVec.ofInt 64 k &&& 31#64)).toNat
theorem rot_ac (x : BitVec 32) (k : Int) : AC Tryd.prog 89 [.u32 x, .i64 k] 0 [] ⟨.u32 (rotF x k), [], []⟩ := by
  refine acA tab mix Tryd.func89 {} ?_
  repeat first | refine EffG.mk (obA ?_) | refine obA ?_ | refine chkA ?_
  refine retA []

def rsF (x : BitVec 32) (a b c : Int) : BitVec 32 := rotF x (-a) ^^^ rotF x (-b) ^^^ rotF x (-c)
def mixW (x : BitVec 32) (a b c : Int) : BitVec 32 := rotF x (-a) ^^^ rotF x (-b) ^^^ x >>> c.toNat
theorem rturn_ac (x : BitVec 32) (a b c : Int) (ha : 0 ≤ a ∧ a < 64) (hb : 0 ≤ b ∧ b < 64) (hc : 0 ≤ c ∧ c < 64) : AC Tryd.prog 86 [.u32 x, .i64 a, .i64 b, .i64 c] 0 [] ⟨.u32 (rsF x a b c), [], []⟩ := by
  refine acA tab mix Tryd.func86 {} ?_
  repeat first | refine EffG.mk (obA ?_) | refine obA ?_ | refine chkA ?_
  refine callA (rot_ac x (-a)) [] ?_
  repeat first | refine EffG.mk (obA ?_) | refine obA ?_ | refine chkA ?_
  refine callA (rot_ac x (-b)) [] ?_
  repeat first | refine EffG.mk (obA ?_) | refine obA ?_ | refine chkA ?_
  refine callA (rot_ac x (-c)) [] ?_
  repeat first | refine EffG.mk (obA ?_) | refine obA ?_ | refine chkA ?_
  refine retA []
theorem mix_ac (x : BitVec 32) (a b c : Int) (ha : 0 ≤ a ∧ a < 64) (hb : 0 ≤ b ∧ b < 64) (hc : 0 ≤ c ∧ c < 64) : AC Tryd.prog 85 [.u32 x, .i64 a, .i64 b, .i64 c] 0 [] ⟨.u32 (mixW x a b c), [], []⟩ := by
  refine acA tab mix Tryd.func85 {} ?_
  repeat first | refine EffG.mk (obA ?_) | refine obA ?_ | refine chkA ?_
  refine callA (rot_ac x (-a)) [] ?_
  repeat first | refine EffG.mk (obA ?_) | refine obA ?_ | refine chkA ?_
  refine callA (rot_ac x (-b)) [] ?_
  repeat first | refine EffG.mk (obA ?_) | refine obA ?_ | refine chkA ?_
  refine retA []

/-! readers -/
abbrev tRd : Ty := .st [.cell, .cell]
theorem read_ac (off len : Nat) (cap : Option Nat) : AC Tryd.prog 83 [.slice 0 [] off len cap] 1 [] ⟨.ptr 1 [], [], [(tRd, .node [.slice 0 [] off len cap, .i64 0])]⟩ := by
  refine acA tab mix Tryd.func83 {} ?_
  repeat first | refine EffG.mk (obA ?_) | refine obA ?_ | refine chkA ?_
  refine retA [0, 1]

theorem next_ac (bs : List (BitVec 8)) (o l k : Nat) (cap : Option Nat) (h : k ≤ l) (hl : l < 9223372036854775808) (ho : o + l ≤ bs.length) :
    AC Tryd.prog 90 [.ptr 0 [], .i64 k] 2 [(0, some ⟨tRd, .node [.slice 1 [] o l cap, .i64 0], true⟩), (1, some ⟨.row .cell, .u8s bs, false⟩)]
      ⟨.slice 1 [] o k (some k), [(0, some (.node [.slice 1 [] (o + k) (l - k) (cap.map (· - k)), .i64 0]))], []⟩ := by
  refine acA tab mix Tryd.func90 {} ?_
  repeat first | refine EffG.mk (obA ?_) | refine obA ?_ | refine chkA ?_ | refine brY ?_ | refine brN ?_
  refine retA [0, 1]

def rdI (bs : List (BitVec 8)) (o : Nat) : Nat → BitVec 64
  | 0 => 0
  | i + 1 => rdI bs o i <<< 8 ||| (bs.getD (o + i) 0).setWidth 64
theorem number_ac (bs : List (BitVec 8)) (o l k : Nat) (cap : Option Nat) (h : k ≤ l) (hl : l < 9223372036854775808) (ho : o + l ≤ bs.length) :
    AC Tryd.prog 88 [.ptr 0 [], .i64 k] 2 [(0, some ⟨tRd, .node [.slice 1 [] o l cap, .i64 0], true⟩), (1, some ⟨.row .cell, .u8s bs, false⟩)]
      ⟨.u64 (rdI bs o k), [(0, some (.node [.slice 1 [] (o + k) (l - k) (cap.map (· - k)), .i64 0]))], []⟩ := by
  refine acA tab mix Tryd.func88 {} ?_
  repeat first | refine EffG.mk (obA ?_) | refine obA ?_ | refine chkA ?_
  refine callA (next_ac bs o l k cap h hl ho) [0, 1] ?_
  repeat first | refine EffG.mk (obA ?_) | refine obA ?_ | refine chkA ?_
  refine loopG Nat (fun i => [(0, .ptr 0 []), (6, .u64 (rdI bs o i)), (13, .slice 1 [] o k (some k)), (14, .i64 k), (15, .i64 i)])
    (fun _ => [(0, some ⟨tRd, .node [.slice 1 [] (o + k) (l - k) (cap.map (· - k)), .i64 0], true⟩), (1, some ⟨.row .cell, .u8s bs, false⟩)]) 2 (fun i => i ≤ k) (fun i => k - i) 0 [0, 1] (Nat.zero_le _) viewA ?_
  intro i hi
  repeat first | refine EffG.mk (obA ?_) | refine obA ?_ | refine chkA ?_
  refine Br.split (fun h => ?_) (fun h => ?_)
  · have hi : i < k := by have := of_decide_eq_true h; omega
    repeat first | refine EffG.mk (obA ?_) | refine obA ?_ | refine chkA ?_
    refine nextA (i + 1) [0, 1] viewA
  · obtain rfl : i = k := by have := of_decide_eq_false h; omega
    repeat first | refine EffG.mk (obA ?_) | refine obA ?_ | refine chkA ?_
    refine retA [0, 1]
theorem u32_ac (bs : List (BitVec 8)) (o l : Nat) (cap : Option Nat) (h : 4 ≤ l) (hl : l < 9223372036854775808) (ho : o + l ≤ bs.length) :
    AC Tryd.prog 84 [.ptr 0 []] 2 [(0, some ⟨tRd, .node [.slice 1 [] o l cap, .i64 0], true⟩), (1, some ⟨.row .cell, .u8s bs, false⟩)]
      ⟨.u32 ((rdI bs o 4).setWidth 32), [(0, some (.node [.slice 1 [] (o + 4) (l - 4) (cap.map (· - 4)), .i64 0]))], []⟩ := by
  refine acA tab mix Tryd.func84 {} ?_
  repeat first | refine EffG.mk (obA ?_) | refine obA ?_ | refine chkA ?_
  refine callA (number_ac bs o l 4 cap h hl ho) [0, 1] ?_
  repeat first | refine EffG.mk (obA ?_) | refine obA ?_ | refine chkA ?_
  refine retA [0, 1]

/-! a block -/
def K256 : List (BitVec 32) := [0x428a2f98, 0x71374491, 0xb5c0fbcf, 0xe9b5dba5, 0x3956c25b, 0x59f111f1, 0x923f82a4, 0xab1c5ed5, 0xd807aa98, 0x12835b01, 0x243185be, 0x550c7dc3, 0x72be5d74, 0x80deb1fe, 0x9bdc06a7, 0xc19bf174, 0xe49b69c1, 0xefbe4786, 0x0fc19dc6, 0x240ca1cc, 0x2de92c6f, 0x4a7484aa, 0x5cb0a9dc, 0x76f988da, 0x983e5152, 0xa831c66d, 0xb00327c8, 0xbf597fc7, 0xc6e00bf3, 0xd5a79147, 0x06ca6351, 0x14292967, 0x27b70a85, 0x2e1b2138, 0x4d2c6dfc, 0x53380d13, 0x650a7354, 0x766a0abb, 0x81c2c92e, 0x92722c85, 0xa2bfe8a1, 0xa81a664b, 0xc24b8b70, 0xc76c51a3, 0xd192e819, 0xd6990624, 0xf40e3585, 0x106aa070, 0x19a4c116, 0x1e376c08, 0x2748774c, 0x34b0bcb5, 0x391c0cb3, 0x4ed8aa4a, 0x5b9cca4f, 0x682e6ff3, 0x748f82ee, 0x78a5636f, 0x84c87814, 0x8cc70208, 0x90befffa, 0xa4506ceb, 0xbef9a3f7, 0xc67178f2]
theorem K256_length : K256.length = 64 := rfl
abbrev gR : Nat × Option Ent := (gid 2, some ⟨.arr 64 .cell, .u32s K256, false⟩)
def wI (bs : List (BitVec 8)) (o : Nat) : Nat → List (BitVec 32)
  | 0 => List.replicate 64 0
  | t + 1 => (wI bs o t).set t (if t < 16 then (rdI bs (o + 4 * t) 4).setWidth 32 else
      mixW ((wI bs o t).getD ((t : Int) - 2).toNat 0) 17 19 10 + (wI bs o t).getD ((t : Int) - 7).toNat 0 + mixW ((wI bs o t).getD ((t : Int) - 15).toNat 0) 7 18 3 + (wI bs o t).getD ((t : Int) - 16).toNat 0)
theorem wI_length (bs : List (BitVec 8)) (o : Nat) : ∀ t, (wI bs o t).length = 64
  | 0 => rfl
  | t + 1 => by rw [wI, List.length_set, wI_length bs o t]
def oneF (v : List (BitVec 32)) (k w : BitVec 32) : BitVec 32 := v.getD 7 0 + rsF (v.getD 4 0) 6 11 25 + (v.getD 4 0 &&& v.getD 5 0 ||| ~~~(v.getD 4 0) &&& v.getD 6 0) + k + w
def twoF (v : List (BitVec 32)) : BitVec 32 := rsF (v.getD 0 0) 2 13 22 + (v.getD 0 0 &&& v.getD 1 0 ||| v.getD 2 0 &&& (v.getD 0 0 ||| v.getD 1 0))
def vS (v : List (BitVec 32)) (k w : BitVec 32) : List (BitVec 32) :=
  [oneF v k w + twoF v, v.getD 0 0, v.getD 1 0, v.getD 2 0, v.getD 3 0 + oneF v k w, v.getD 4 0, v.getD 5 0, v.getD 6 0]
def vI (w s : List (BitVec 32)) : Nat → List (BitVec 32)
  | 0 => s
  | t + 1 => vS (vI w s t) (K256.getD t 0) (w.getD t 0)
theorem vI_length (w s : List (BitVec 32)) (hs : s.length = 8) : ∀ t, (vI w s t).length = 8
  | 0 => hs
  | t + 1 => rfl
def sumI (s v : List (BitVec 32)) : Nat → List (BitVec 32)
  | 0 => s
  | i + 1 => (sumI s v i).set i ((sumI s v i).getD i 0 + v.getD i 0)
theorem sumI_length (s v : List (BitVec 32)) : ∀ i, (sumI s v i).length = s.length
  | 0 => rfl
  | i + 1 => by rw [sumI, List.length_set, sumI_length s v i]
/-- the state behind a block that begins at o -/
def sbF (s : List (BitVec 32)) (bs : List (BitVec 8)) (o : Nat) : List (BitVec 32) := sumI s (vI (wI bs o 64) s 64) 8
theorem sbF_length (s : List (BitVec 32)) (bs : List (BitVec 8)) (o : Nat) : (sbF s bs o).length = s.length := sumI_length _ _ _
theorem len8 {α : Type} {l : List α} (h : l.length = 8) : ∃ a b c d e f g i, l = [a, b, c, d, e, f, g, i] := by
  match l, h with
  | [a, b, c, d, e, f, g, i], _ => exact ⟨a, b, c, d, e, f, g, i, rfl⟩

abbrev t8 : Ty := .arr 8 .cell
abbrev tH : Ty := .st [t8, .cell, .cell]

abbrev AddC (s : List (BitVec 32)) (bs : List (BitVec 8)) (o : Nat) (T : Ty) (p : Path) (wr : D → D) : Prop :=
  AC Tryd.prog 76 [.ptr 0 p, .slice 1 [] o 64 (some 64)] 3 [(0, some ⟨T, wr (.u32s s), true⟩), (1, some ⟨.row .cell, .u8s bs, false⟩), gR] ⟨.tup [], [(0, some (wr (.u32s (sumI s (vI (wI bs o 64) s 64) 8))))], []⟩
set_option maxHeartbeats 2000000 in
theorem add_acs (s : List (BitVec 32)) (bs : List (BitVec 8)) (o : Nat) (hs : s.length = 8) (ho : o + 64 ≤ bs.length) (hl : bs.length < 9223372036854775808) (n : Int) (ro rl : Nat) (rc : Option Nat) :
    (let T := t8; let p : Path := []; let wr : D → D := fun x => x; AddC s bs o T p wr) ∧
    (let T := tH; let p : Path := [.fld 0]; let wr : D → D := fun x => .node [x, .nilslice, .i64 n]; AddC s bs o T p wr) ∧
    (let T := tH; let p : Path := [.fld 0]; let wr : D → D := fun x => .node [x, .slice 2 [] ro rl rc, .i64 n]; AddC s bs o T p wr) := by
  have hK := K256_length
  refine ⟨?_, ?_, ?_⟩
  all_goals
    intro T p wr
    refine acA tab mix Tryd.func76 {} ?_
    repeat first | refine EffG.mk (obA ?_) | refine obA ?_ | refine chkA ?_
    refine callA (read_ac o 64 (some 64)) [1] ?_
    repeat first | refine EffG.mk (obA ?_) | refine obA ?_ | refine chkA ?_
    refine loopG Nat (fun t => [(0, .ptr 0 p), (4, .ptr 3 []), (5, .ptr 4 []), (15, .i64 t)]) (fun t => [(0, some ⟨T, wr (.u32s s), true⟩), (1, some ⟨.row .cell, .u8s bs, false⟩), (3, some ⟨.arr 64 .cell, .u32s (wI bs o t), true⟩),
      (4, some ⟨tRd, .node [.slice 1 [] (o + 4 * min t 16) (64 - 4 * min t 16) (some (64 - 4 * min t 16)), .i64 0], true⟩), gR]) 5 (fun t => t ≤ 64) (fun t => 64 - t) 0 [0, 1, 2, 3, 4] (Nat.zero_le _) viewA ?_
    intro t ht
    have hw := wI_length bs o t
    repeat first | refine EffG.mk (obA ?_) | refine obA ?_ | refine chkA ?_
    refine Br.split (fun h => ?_) (fun h => ?_)
    · have ht : t < 64 := by have := of_decide_eq_true h; omega
      have hm := wI_length bs o (t + 1)
      repeat first | refine EffG.mk (obA ?_) | refine obA ?_ | refine chkA ?_
      refine Br.split (fun h => ?_) (fun h => ?_)
      · have ht : t < 16 := by have := of_decide_eq_true h; omega
        have e : wI bs o (t + 1) = (wI bs o t).set t ((rdI bs (o + 4 * t) 4).setWidth 32) := by rw [wI, if_pos ht]
        have e1 : min t 16 = t := by omega
        have e2 : min (t + 1) 16 = t + 1 := by omega
        rw [e1]
        repeat first | refine EffG.mk (obA ?_) | refine obA ?_ | refine chkA ?_
        refine callA (u32_ac bs (o + 4 * t) (64 - 4 * t) (some (64 - 4 * t)) (by omega) (by omega) (by omega)) [4, 1] ?_
        repeat first | refine EffG.mk (obA ?_) | refine obA ?_ | refine chkA ?_
        refine nextA (t + 1) [0, 1, 2, 3, 4] (viewA (h3 := ?_))
        rw [e, e2, show o + 4 * (t + 1) = o + 4 * t + 4 by omega, show 64 - 4 * (t + 1) = 64 - 4 * t - 4 by omega]
        exact ⟨⟨_, rfl, rfl, rfl, id⟩, ⟨_, rfl, rfl, rfl, id⟩, ⟨_, rfl, rfl, rfl, id⟩, ⟨_, rfl, rfl, rfl, id⟩, ⟨_, rfl, rfl, rfl, id⟩, trivial⟩
      · have ht : ¬ t < 16 := by have := of_decide_eq_false h; omega
        have e : wI bs o (t + 1) = (wI bs o t).set t (mixW ((wI bs o t).getD ((t : Int) - 2).toNat 0) 17 19 10 + (wI bs o t).getD ((t : Int) - 7).toNat 0 + mixW ((wI bs o t).getD ((t : Int) - 15).toNat 0) 7 18 3 + (wI bs o t).getD ((t : Int) - 16).toNat 0) := by
          rw [wI, if_neg ht]
        have e1 : min t 16 = 16 := by omega
        have e2 : min (t + 1) 16 = 16 := by omega
        rw [e1]
        repeat first | refine EffG.mk (obA ?_) | refine obA ?_ | refine chkA ?_
        refine callA (mix_ac _ 17 19 10 (by decide) (by decide) (by decide)) [] ?_
        repeat first | refine EffG.mk (obA ?_) | refine obA ?_ | refine chkA ?_
        refine callA (mix_ac _ 7 18 3 (by decide) (by decide) (by decide)) [] ?_
        repeat first | refine EffG.mk (obA ?_) | refine obA ?_ | refine chkA ?_
        refine nextA (t + 1) [0, 1, 2, 3, 4] (viewA (h3 := ?_))
        rw [e, e2]
        exact ⟨⟨_, rfl, rfl, rfl, id⟩, ⟨_, rfl, rfl, rfl, id⟩, ⟨_, rfl, rfl, rfl, id⟩, ⟨_, rfl, rfl, rfl, id⟩, ⟨_, rfl, rfl, rfl, id⟩, trivial⟩
    · obtain rfl : t = 64 := by have := of_decide_eq_false h; omega
      generalize wI bs o 64 = w at hw ⊢
      repeat first | refine EffG.mk (obA ?_) | refine obA ?_ | refine chkA ?_
      refine loopG Nat (fun t => [(0, .ptr 0 p), (4, .ptr 3 []), (7, .ptr 4 []), (51, .i64 t)]) (fun t => [(0, some ⟨T, wr (.u32s s), true⟩), (1, some ⟨.row .cell, .u8s bs, false⟩), (3, some ⟨.arr 64 .cell, .u32s w, true⟩),
        (4, some ⟨t8, .u32s (vI w s t), true⟩), gR]) 5 (fun t => t ≤ 64) (fun t => 64 - t) 0 [0, 1, 2, 3, 5] (Nat.zero_le _) viewA ?_
      intro t ht
      have hv := vI_length w s hs t
      repeat first | refine EffG.mk (obA ?_) | refine obA ?_ | refine chkA ?_
      refine Br.split (fun h => ?_) (fun h => ?_)
      · have ht : t < 64 := by have := of_decide_eq_true h; omega
        have e : vI w s (t + 1) = vS (vI w s t) (K256.getD t 0) (w.getD t 0) := rfl
        generalize vI w s t = v at hv e ⊢
        obtain ⟨v0, v1, v2, v3, v4, v5, v6, v7, rfl⟩ := len8 hv
        repeat first | refine EffG.mk (obA ?_) | refine obA ?_ | refine chkA ?_
        refine callA (rturn_ac _ 6 11 25 (by decide) (by decide) (by decide)) [] ?_
        repeat first | refine EffG.mk (obA ?_) | refine obA ?_ | refine chkA ?_
        refine callA (rturn_ac _ 2 13 22 (by decide) (by decide) (by decide)) [] ?_
        repeat first | refine EffG.mk (obA ?_) | refine obA ?_ | refine chkA ?_
        refine nextA (t + 1) [0, 1, 2, 3, 4] (viewA (h3 := ?_))
        rw [e]
        exact ⟨⟨_, rfl, rfl, rfl, id⟩, ⟨_, rfl, rfl, rfl, id⟩, ⟨_, rfl, rfl, rfl, id⟩, ⟨_, rfl, rfl, rfl, id⟩, ⟨_, rfl, rfl, rfl, id⟩, trivial⟩
      · obtain rfl : t = 64 := by have := of_decide_eq_false h; omega
        generalize vI w s 64 = v at hv ⊢
        repeat first | refine EffG.mk (obA ?_) | refine obA ?_ | refine chkA ?_
        refine loopG Nat (fun i => [(0, .ptr 0 p), (112, .u32s v), (113, .i64 i)]) (fun i => [(0, some ⟨T, wr (.u32s (sumI s v i)), true⟩), (1, some ⟨.row .cell, .u8s bs, false⟩), gR]) 3 (fun i => i ≤ 8) (fun i => 8 - i) 0 [0, 1, 2] (Nat.zero_le _) viewA ?_
        intro i hi
        have hs2 := sumI_length s v i
        repeat first | refine EffG.mk (obA ?_) | refine obA ?_ | refine chkA ?_
        refine Br.split (fun h => ?_) (fun h => ?_)
        · have hi : i < 8 := by have := of_decide_eq_true h; omega
          repeat first | refine EffG.mk (obA ?_) | refine obA ?_ | refine chkA ?_
          refine nextA (i + 1) [0, 1, 2] viewA
        · obtain rfl : i = 8 := by have := of_decide_eq_false h; omega
          repeat first | refine EffG.mk (obA ?_) | refine obA ?_ | refine chkA ?_
          refine retA [0, 1, 2]
