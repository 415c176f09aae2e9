import Derived.Test.YtljkjdhkofbgmaaDoorM5
import Derived.Test.YtljkjdhkofbgmaaDoorM3
import Derived.ProofKit
import Derived.OpenShut
import Derived.Lib.LaidU8
import Derived.Lay
import Derived.MakeChecks
import Derived.ChangeSlices
import Derived.ChangeSame
namespace Go.Proofs.YtljkjdhkofbgmaaDoor.Av
open Go
set_option linter.all false
set_option maxRecDepth 3000

/-! the document's sums: the same functions -/
theorem rs_eq (x : BitVec 32) (n : Nat) (h1 : (BitVec.ofInt 64 (-(n : Int)) &&& 31#64).toNat = 32 - n) (h2 : (32#64 - (BitVec.ofInt 64 (-(n : Int)) &&& 31#64)).toNat = n) : x >>> n ||| x <<< (32 - n) = rotF x (-(n : Int)) := by
  rw [rotF, h1, h2, BitVec.or_comm]
theorem rr_ac (x : BitVec 32) (n : Nat) (h1 : (BitVec.ofInt 64 (-(n : Int)) &&& 31#64).toNat = 32 - n) (h2 : (32#64 - (BitVec.ofInt 64 (-(n : Int)) &&& 31#64)).toNat = n) (h3 : (BitVec.ofNat 64 n).toNat = n) (h4 : (32#64 - BitVec.ofNat 64 n).toNat = 32 - n) :
    AC Tryd.prog 80 [.u32 x, .u64 (BitVec.ofNat 64 n)] 0 [] ⟨.u32 (rotF x (-(n : Int))), [], []⟩ := by
  rw [← rs_eq x n h1 h2]
  have e : x >>> n ||| x <<< (32 - n) = x >>> (BitVec.ofNat 64 n).toNat ||| x <<< (32#64 - BitVec.ofNat 64 n).toNat := by rw [h3, h4]
  rw [e]
  refine acA tab mix Tryd.func80 {} ?_
  repeat first | refine EffG.mk (obA ?_) | refine obA ?_ | refine chkA ?_
  refine retA []
theorem ch_eq (e f g : BitVec 32) : e &&& f ^^^ ~~~e &&& g = e &&& f ||| ~~~e &&& g := by
  refine BitVec.eq_of_getLsbD_eq fun i hi => ?_
  simp only [BitVec.getLsbD_xor, BitVec.getLsbD_and, BitVec.getLsbD_or, BitVec.getLsbD_not, hi, decide_true, Bool.true_and]
  cases e.getLsbD i <;> cases f.getLsbD i <;> cases g.getLsbD i <;> rfl
theorem maj_eq (a b c : BitVec 32) : a &&& b ^^^ a &&& c ^^^ b &&& c = a &&& b ||| c &&& (a ||| b) := by
  refine BitVec.eq_of_getLsbD_eq fun i hi => ?_
  simp only [BitVec.getLsbD_xor, BitVec.getLsbD_and, BitVec.getLsbD_or]
  cases a.getLsbD i <;> cases b.getLsbD i <;> cases c.getLsbD i <;> rfl
theorem rd4_eq (bs : List (BitVec 8)) (o : Nat) : (rdI bs o 4).setWidth 32 = (bs.getD o 0).setWidth 32 <<< 24 ||| (bs.getD (o + 1) 0).setWidth 32 <<< 16 ||| (bs.getD (o + 2) 0).setWidth 32 <<< 8 ||| (bs.getD (o + 3) 0).setWidth 32 := by
  simp only [rdI, Nat.add_zero]
  generalize bs.getD o 0 = a
  generalize bs.getD (o + 1) 0 = b
  generalize bs.getD (o + 2) 0 = c
  generalize bs.getD (o + 3) 0 = d
  refine BitVec.eq_of_getLsbD_eq fun i hi => ?_
  simp only [BitVec.getLsbD_setWidth, BitVec.getLsbD_or, BitVec.getLsbD_shiftLeft, hi, decide_true, Bool.true_and, BitVec.getLsbD_zero, Bool.and_false, Bool.false_or]
  have key : ∀ (x : BitVec 8) (k : Nat), 8 ≤ k → x.getLsbD k = false := fun x k hk => BitVec.getLsbD_of_ge _ _ hk
  rcases Nat.lt_or_ge i 8 with h | h
  · simp [h, show i < 16 by omega, show i < 24 by omega, show i < 64 by omega]
  rcases Nat.lt_or_ge i 16 with h2 | h2
  · simp [show ¬ i < 8 by omega, h2, show i < 24 by omega, show i < 64 by omega, key d i h, show i - 8 < 8 by omega, show i - 8 < 64 by omega, show i - 8 < 32 by omega]
  rcases Nat.lt_or_ge i 24 with h3 | h3
  · simp [show ¬ i < 8 by omega, show ¬ i < 16 by omega, h3, show i < 64 by omega, key d i h, key c (i - 8) (by omega), show ¬ i - 8 < 8 by omega, show i - 8 < 64 by omega, show i - 8 - 8 = i - 16 by omega, show i - 16 < 8 by omega, show i - 16 < 64 by omega, show i - 16 < 32 by omega]
  · simp [show ¬ i < 8 by omega, show ¬ i < 16 by omega, show ¬ i < 24 by omega, show i < 64 by omega, key d i h, key c (i - 8) (by omega), key b (i - 16) (by omega), show ¬ i - 8 < 8 by omega, show i - 8 < 64 by omega, show i - 8 - 8 = i - 16 by omega, show i - 16 - 8 = i - 24 by omega, show ¬ i - 16 < 8 by omega, show i - 16 < 64 by omega, show i - 24 < 64 by omega, show i - 24 < 32 by omega]

abbrev gK : Nat × Option Ent := (gid 1, some ⟨.arr 64 .cell, .u32s K256, false⟩)
set_option maxHeartbeats 2000000 in
theorem rblock_ac (s : List (BitVec 32)) (bs : List (BitVec 8)) (o : Nat) (cap : Option Nat) (hs : s.length = 8) (ho : o + 64 ≤ bs.length) (hl : bs.length < 9223372036854775808) :
    AC Tryd.prog 69 [.u32s s, .slice 0 [] o 64 cap] 1 [(0, some ⟨.row .cell, .u8s bs, false⟩), gK] ⟨.u32s (sbF s bs o), [], []⟩ := by
  have hK := K256_length
  have e0 : sbF s bs o = sumI s (vI (wI bs o 64) s 64) 8 := rfl
  rw [e0]
  refine acA tab mix Tryd.func69 {} ?_
  repeat first | refine EffG.mk (obA ?_) | refine obA ?_ | refine chkA ?_
  refine loopG Nat (fun t => [(1, .slice 0 [] o 64 cap), (2, .ptr 1 []), (4, .ptr 2 []), (5, .ptr 3 []), (6, .i64 t)]) (fun t => [(0, some ⟨.row .cell, .u8s bs, false⟩), (1, some ⟨t8, .u32s s, true⟩), (2, some ⟨t8, .u32s (List.replicate 8 0), true⟩), (3, some ⟨.arr 64 .cell, .u32s (wI bs o t), true⟩), gK]) 4
    (fun t => t ≤ 16) (fun t => 16 - t) 0 [0, 1, 2, 3] (Nat.zero_le _) viewA ?_
  intro t ht
  have hw := wI_length bs o t
  repeat first | refine EffG.mk (obA ?_) | refine obA ?_ | refine chkA ?_
  refine Br.split (fun h => ?_) (fun h => ?_)
  · have ht : t < 16 := by have := of_decide_eq_true h; omega
    have e : wI bs o (t + 1) = (wI bs o t).set t ((rdI bs (o + 4 * t) 4).setWidth 32) := by rw [wI, if_pos ht]
    repeat first | refine EffG.mk (obA ?_) | refine obA ?_ | refine chkA ?_
    refine nextA (t + 1) [0, 1, 2, 3] (viewA (h3 := ?_))
    rw [e, rd4_eq]
    refine ⟨⟨_, rfl, rfl, rfl, id⟩, ⟨_, rfl, rfl, rfl, id⟩, ⟨_, rfl, rfl, rfl, id⟩, ⟨_, rfl, rfl, ?_, id⟩, ⟨_, rfl, rfl, rfl, id⟩, trivial⟩
    rw [Nat.add_assoc o (4 * t) 1, Nat.add_assoc o (4 * t) 2, Nat.add_assoc o (4 * t) 3, show 4 * t = (4 * (t : Int)).toNat by omega, show (4 * (t : Int)).toNat + 1 = (4 * (t : Int) + 1).toNat by omega, show (4 * (t : Int)).toNat + 2 = (4 * (t : Int) + 2).toNat by omega, show (4 * (t : Int)).toNat + 3 = (4 * (t : Int) + 3).toNat by omega]
    rfl
  · obtain rfl : t = 16 := by have := of_decide_eq_false h; omega
    repeat first | refine EffG.mk (obA ?_) | refine obA ?_ | refine chkA ?_
    refine loopG Nat (fun t => [(2, .ptr 1 []), (4, .ptr 2 []), (5, .ptr 3 []), (7, .i64 t)]) (fun t => [(0, some ⟨.row .cell, .u8s bs, false⟩), (1, some ⟨t8, .u32s s, true⟩), (2, some ⟨t8, .u32s (List.replicate 8 0), true⟩), (3, some ⟨.arr 64 .cell, .u32s (wI bs o t), true⟩), gK]) 4
      (fun t => 16 ≤ t ∧ t ≤ 64) (fun t => 64 - t) 16 [0, 1, 2, 3] (by decide) viewA ?_
    intro t ht
    have hw := wI_length bs o t
    repeat first | refine EffG.mk (obA ?_) | refine obA ?_ | refine chkA ?_
    refine Br.split (fun h => ?_) (fun h => ?_)
    · have ht2 : t < 64 := by have := of_decide_eq_true h; omega
      have e : wI bs o (t + 1) = (wI bs o t).set t (mixW ((wI bs o t).getD ((t : Int) - 2).toNat 0) 17 19 10 + (wI bs o t).getD ((t : Int) - 7).toNat 0 + mixW ((wI bs o t).getD ((t : Int) - 15).toNat 0) 7 18 3 + (wI bs o t).getD ((t : Int) - 16).toNat 0) := by
        rw [wI, if_neg (by omega)]
      generalize wI bs o t = w at hw e ⊢
      repeat first | refine EffG.mk (obA ?_) | refine obA ?_ | refine chkA ?_
      refine callA (rr_ac _ 17 (by decide) (by decide) (by decide) (by decide)) [] ?_
      repeat first | refine EffG.mk (obA ?_) | refine obA ?_ | refine chkA ?_
      refine callA (rr_ac _ 19 (by decide) (by decide) (by decide) (by decide)) [] ?_
      repeat first | refine EffG.mk (obA ?_) | refine obA ?_ | refine chkA ?_
      refine callA (rr_ac _ 7 (by decide) (by decide) (by decide) (by decide)) [] ?_
      repeat first | refine EffG.mk (obA ?_) | refine obA ?_ | refine chkA ?_
      refine callA (rr_ac _ 18 (by decide) (by decide) (by decide) (by decide)) [] ?_
      repeat first | refine EffG.mk (obA ?_) | refine obA ?_ | refine chkA ?_
      refine nextA (t + 1) [0, 1, 2, 3] (viewA (h3 := ?_))
      rw [e]
      exact ⟨⟨_, rfl, rfl, rfl, id⟩, ⟨_, rfl, rfl, rfl, id⟩, ⟨_, rfl, rfl, rfl, id⟩, ⟨_, rfl, rfl, rfl, id⟩, ⟨_, rfl, rfl, rfl, id⟩, trivial⟩
    · obtain rfl : t = 64 := by have := of_decide_eq_false h; omega
      generalize wI bs o 64 = w at hw ⊢
      repeat first | refine EffG.mk (obA ?_) | refine obA ?_ | refine chkA ?_
      refine loopG Nat (fun t => [(2, .ptr 1 []), (4, .ptr 2 []), (5, .ptr 3 []), (10, .ptr 4 []), (11, .i64 t)]) (fun t => [(0, some ⟨.row .cell, .u8s bs, false⟩), (1, some ⟨t8, .u32s s, true⟩), (2, some ⟨t8, .u32s (List.replicate 8 0), true⟩), (3, some ⟨.arr 64 .cell, .u32s w, true⟩),
        (4, some ⟨t8, .u32s (vI w s t), true⟩), gK]) 5 (fun t => t ≤ 64) (fun t => 64 - t) 0 [0, 1, 2, 3, 4] (Nat.zero_le _) viewA ?_
      intro t ht
      have hv := vI_length w s hs t
      repeat first | refine EffG.mk (obA ?_) | refine obA ?_ | refine chkA ?_
      refine Br.split (fun h => ?_) (fun h => ?_)
      · have ht : t < 64 := by have := of_decide_eq_true h; omega
        have e : vI w s (t + 1) = vS (vI w s t) (K256.getD t 0) (w.getD t 0) := rfl
        generalize vI w s t = v at hv e ⊢
        obtain ⟨v0, v1, v2, v3, v4, v5, v6, v7, rfl⟩ := len8 hv
        repeat first | refine EffG.mk (obA ?_) | refine obA ?_ | refine chkA ?_
        refine callA (rr_ac _ 6 (by decide) (by decide) (by decide) (by decide)) [] ?_
        repeat first | refine EffG.mk (obA ?_) | refine obA ?_ | refine chkA ?_
        refine callA (rr_ac _ 11 (by decide) (by decide) (by decide) (by decide)) [] ?_
        repeat first | refine EffG.mk (obA ?_) | refine obA ?_ | refine chkA ?_
        refine callA (rr_ac _ 25 (by decide) (by decide) (by decide) (by decide)) [] ?_
        repeat first | refine EffG.mk (obA ?_) | refine obA ?_ | refine chkA ?_
        refine callA (rr_ac _ 2 (by decide) (by decide) (by decide) (by decide)) [] ?_
        repeat first | refine EffG.mk (obA ?_) | refine obA ?_ | refine chkA ?_
        refine callA (rr_ac _ 13 (by decide) (by decide) (by decide) (by decide)) [] ?_
        repeat first | refine EffG.mk (obA ?_) | refine obA ?_ | refine chkA ?_
        refine callA (rr_ac _ 22 (by decide) (by decide) (by decide) (by decide)) [] ?_
        repeat first | refine EffG.mk (obA ?_) | refine obA ?_ | refine chkA ?_
        refine nextA (t + 1) [0, 1, 2, 3, 4] (viewA (h3 := ?_))
        rw [e]
        refine ⟨⟨_, rfl, rfl, rfl, id⟩, ⟨_, rfl, rfl, rfl, id⟩, ⟨_, rfl, rfl, rfl, id⟩, ⟨_, rfl, rfl, rfl, id⟩, ⟨_, rfl, rfl, ?_, id⟩, ⟨_, rfl, rfl, rfl, id⟩, trivial⟩
        rw [ch_eq, maj_eq]
        rfl
      · obtain rfl : t = 64 := by have := of_decide_eq_false h; omega
        generalize vI w s 64 = v at hv ⊢
        repeat first | refine EffG.mk (obA ?_) | refine obA ?_ | refine chkA ?_
        refine loopG Nat (fun i => [(2, .ptr 1 []), (4, .ptr 2 []), (10, .ptr 3 []), (20, .i64 i)]) (fun i => [(0, some ⟨.row .cell, .u8s bs, false⟩), (1, some ⟨t8, .u32s (sumI s v i), true⟩), (2, some ⟨t8, .u32s (List.replicate 8 0), true⟩), (3, some ⟨t8, .u32s v, true⟩), gK]) 4 (fun i => i ≤ 8) (fun i => 8 - i) 0 [0, 1, 2, 4] (Nat.zero_le _) viewA ?_
        intro i hi
        have hs2 := sumI_length s v i
        repeat first | refine EffG.mk (obA ?_) | refine obA ?_ | refine chkA ?_
        refine Br.split (fun h => ?_) (fun h => ?_)
        · have hi : i < 8 := by have := of_decide_eq_true h; omega
          repeat first | refine EffG.mk (obA ?_) | refine obA ?_ | refine chkA ?_
          refine nextA (i + 1) [0, 1, 2, 3] viewA
        · obtain rfl : i = 8 := by have := of_decide_eq_false h; omega
          repeat first | refine EffG.mk (obA ?_) | refine obA ?_ | refine chkA ?_
          refine retA [0]
end Go.Proofs.YtljkjdhkofbgmaaDoor.Av

namespace Go.Proofs.YtljkjdhkofbgmaaDoor.Av
open Go
set_option linter.all false
set_option maxRecDepth 3000

def be8 (n : BitVec 64) : List (BitVec 8) := [(n >>> 56).setWidth 8, (n >>> 48).setWidth 8, (n >>> 40).setWidth 8, (n >>> 32).setWidth 8, (n >>> 24).setWidth 8, (n >>> 16).setWidth 8, (n >>> 8).setWidth 8, (n >>> 0).setWidth 8]
def be4 (n : BitVec 64) : List (BitVec 8) := [(n >>> 24).setWidth 8, (n >>> 16).setWidth 8, (n >>> 8).setWidth 8, (n >>> 0).setWidth 8]
theorem be8_eq (n : BitVec 64) : be8 n = nbF n 8 := by
  have h : nbF n 8 = [(n >>> 8 >>> 8 >>> 8 >>> 8 >>> 8 >>> 8 >>> 8).setWidth 8, (n >>> 8 >>> 8 >>> 8 >>> 8 >>> 8 >>> 8).setWidth 8, (n >>> 8 >>> 8 >>> 8 >>> 8 >>> 8).setWidth 8, (n >>> 8 >>> 8 >>> 8 >>> 8).setWidth 8, (n >>> 8 >>> 8 >>> 8).setWidth 8, (n >>> 8 >>> 8).setWidth 8, (n >>> 8).setWidth 8, n.setWidth 8] := rfl
  rw [h, be8]
  simp only [← BitVec.shiftRight_add, BitVec.ushiftRight_zero]
theorem be4_eq (n : BitVec 64) : be4 n = nbF n 4 := by
  have h : nbF n 4 = [(n >>> 8 >>> 8 >>> 8).setWidth 8, (n >>> 8 >>> 8).setWidth 8, (n >>> 8).setWidth 8, n.setWidth 8] := rfl
  rw [h, be4]
  simp only [← BitVec.shiftRight_add, BitVec.ushiftRight_zero]

theorem rput8_ac (n : BitVec 64) : AC Tryd.prog 68 [.u64 n, .i64 8] 0 [] ⟨.slice 0 [] 0 8 none, [], [(.row .cell, .u8s (nbF n 8))]⟩ := by
  rw [← be8_eq]
  refine acA tab mix Tryd.func68 ⟨[], [3]⟩ ?_
  repeat first | refine EffG.mk (obA ?_) | refine obA ?_ | refine chkA ?_
  refine unrG 9 ?_
  repeat first | refine EffG.mk (obA ?_) | refine obA ?_ | refine chkA ?_ | refine brY ?_ | refine brN ?_
  refine ⟨1, ?_⟩
  repeat first | refine EffG.mk (obA ?_) | refine obA ?_ | refine chkA ?_ | refine brY ?_ | refine brN ?_
  refine ⟨0, ?_⟩
  repeat first | refine EffG.mk (obA ?_) | refine obA ?_ | refine chkA ?_ | refine brY ?_ | refine brN ?_
  refine ⟨0, ?_⟩
  repeat first | refine EffG.mk (obA ?_) | refine obA ?_ | refine chkA ?_ | refine brY ?_ | refine brN ?_
  refine ⟨0, ?_⟩
  repeat first | refine EffG.mk (obA ?_) | refine obA ?_ | refine chkA ?_ | refine brY ?_ | refine brN ?_
  refine ⟨0, ?_⟩
  repeat first | refine EffG.mk (obA ?_) | refine obA ?_ | refine chkA ?_ | refine brY ?_ | refine brN ?_
  refine ⟨0, ?_⟩
  repeat first | refine EffG.mk (obA ?_) | refine obA ?_ | refine chkA ?_ | refine brY ?_ | refine brN ?_
  refine ⟨0, ?_⟩
  repeat first | refine EffG.mk (obA ?_) | refine obA ?_ | refine chkA ?_ | refine brY ?_ | refine brN ?_
  refine ⟨0, ?_⟩
  repeat first | refine EffG.mk (obA ?_) | refine obA ?_ | refine chkA ?_ | refine brY ?_ | refine brN ?_
  refine retA [15]
theorem rput4_ac (n : BitVec 64) : AC Tryd.prog 68 [.u64 n, .i64 4] 0 [] ⟨.slice 0 [] 0 4 none, [], [(.row .cell, .u8s (nbF n 4))]⟩ := by
  rw [← be4_eq]
  refine acA tab mix Tryd.func68 ⟨[], [3]⟩ ?_
  repeat first | refine EffG.mk (obA ?_) | refine obA ?_ | refine chkA ?_
  refine unrG 5 ?_
  repeat first | refine EffG.mk (obA ?_) | refine obA ?_ | refine chkA ?_ | refine brY ?_ | refine brN ?_
  refine ⟨1, ?_⟩
  repeat first | refine EffG.mk (obA ?_) | refine obA ?_ | refine chkA ?_ | refine brY ?_ | refine brN ?_
  refine ⟨0, ?_⟩
  repeat first | refine EffG.mk (obA ?_) | refine obA ?_ | refine chkA ?_ | refine brY ?_ | refine brN ?_
  refine ⟨0, ?_⟩
  repeat first | refine EffG.mk (obA ?_) | refine obA ?_ | refine chkA ?_ | refine brY ?_ | refine brN ?_
  refine ⟨0, ?_⟩
  repeat first | refine EffG.mk (obA ?_) | refine obA ?_ | refine chkA ?_ | refine brY ?_ | refine brN ?_
  refine retA [7]

/-! the state as bytes -/
def wbI (s : List (BitVec 32)) : Nat → List (BitVec 8)
  | 0 => List.replicate 32 0
  | i + 1 => (wbI s i).set i ((s.getD (i / 4) 0 >>> (24 - 8 * (i % 4))).setWidth 8)
theorem wbI_length (s : List (BitVec 32)) : ∀ i, (wbI s i).length = 32
  | 0 => rfl
  | i + 1 => by rw [wbI, List.length_set, wbI_length s i]
theorem nb4w (x : BitVec 32) : nbF (x.setWidth 64) 4 = [(x >>> 24).setWidth 8, (x >>> 16).setWidth 8, (x >>> 8).setWidth 8, (x >>> 0).setWidth 8] := by
  have key : ∀ k : Nat, (x.setWidth 64 >>> k).setWidth 8 = (x >>> k).setWidth 8 := fun k => by
    refine BitVec.eq_of_getLsbD_eq fun i hi => ?_
    simp only [BitVec.getLsbD_setWidth, BitVec.getLsbD_ushiftRight, hi, decide_true, Bool.true_and]
    rcases Nat.lt_or_ge (k + i) 64 with h | h
    · simp [h]
    · rw [BitVec.getLsbD_of_ge x (k + i) (by omega)]; simp
  rw [← be4_eq, be4, key, key, key, key]
theorem wbI_out (s : List (BitVec 32)) (hs : s.length = 8) : wbI s 32 = outI s 8 := by
  obtain ⟨a, b, c, d, e, f, g, i, rfl⟩ := len8 hs
  simp only [outI, nb4w]
  kernel_rfl

theorem sl_eq {b a a' l l' : Nat} {c c' : Option Nat} (h1 : a = a') (h2 : l = l') (h3 : c = c') : [D.slice b [] a l c] = [D.slice b [] a' l' c'] := by rw [h1, h2, h3]
theorem rof_ac (bs : List (BitVec 8)) (o k : Nat) (cap : Option Nat) (h : o + k ≤ bs.length) (hk : k ≤ 35184372088832) :
    AC Tryd.prog 54 [.slice 0 [] o k cap] 1 [(0, some ⟨.row .cell, .u8s bs, false⟩), gK] ⟨.u8s (shaF ((bs.drop o).take k)), [], []⟩ := by
  have hl : ((bs.drop o).take k).length = k := by rw [List.length_take, List.length_drop]; omega
  have hS : shaF ((bs.drop o).take k) = outI (shaI H0 (padF ((bs.drop o).take k) k) ((padF ((bs.drop o).take k) k).length / 64)) 8 := by unfold shaF; rw [hl]
  have hP : padF ((bs.drop o).take k) k = padI ((bs.drop o).take k) (zN k) ++ nbF (BitVec.ofInt 64 k * 8) 8 := by rw [padF, hl]
  have hPl := padF_length ((bs.drop o).take k) k
  rw [hl] at hPl
  have hz := zN_mod k
  have hz2 : zN k < 64 := Nat.mod_lt _ (by decide)
  refine acA tab mix Tryd.func54 {} ?_
  generalize hc : (bs.drop o).take k = c at *
  have ht : List.take k c = c := List.take_of_length_le (by omega)
  repeat first | refine EffG.mk (obA ?_) | refine obA ?_ | refine chkA ?_
  refine ⟨0, ?_⟩
  repeat first | refine EffG.mk (obA ?_) | refine obA ?_ | refine chkA ?_
  refine ⟨0, ?_⟩
  repeat first | refine EffG.mk (obA ?_) | refine obA ?_ | refine chkA ?_
  refine loopG Nat (fun j => [(0, .slice 0 [] o k cap), (2, .ptr 1 []), (3, .slice 2 [] 0 (k + 1 + j) none)]) (fun j => [(0, some ⟨.row .cell, .u8s bs, false⟩), (1, some ⟨.arr 32 .cell, .u8s (List.replicate 32 0), true⟩), (2, some ⟨.row .cell, .u8s (padI c j), true⟩), gK]) 3
    (fun j => j ≤ zN k) (fun j => zN k - j) 0 [0, 1, 5] (Nat.zero_le _) (viewA (h3 := ?_)) ?_
  · exact ⟨⟨_, rfl, rfl, rfl, id⟩, ⟨_, rfl, rfl, rfl, id⟩, ⟨_, rfl, rfl, congrArg (fun x => D.u8s (x ++ [128])) (show List.take (0 + k) (List.take k (List.drop o bs)) = c by rw [hc, Nat.zero_add]; exact ht), id⟩, ⟨_, rfl, rfl, rfl, id⟩, trivial⟩
  intro j hj
  have hpl := padI_length c j
  rw [hl] at hpl
  have q : Int.tmod ((k + 1 + j : Nat) : Int) 64 = (((k + 1 + j) % 64 : Nat) : Int) := (Int.ofNat_tmod (k + 1 + j) 64).symm
  repeat first | rw [q] | refine EffG.mk (obA ?_) | refine obA ?_ | refine chkA ?_
  refine Br.split (fun h => ?_) (fun h => ?_)
  · have hj : j < zN k := by
      have h1 : ¬ (((k + 1 + j) % 64 : Nat) : Int) = 56 := by simpa only [Bool.not_eq_true', decide_eq_false_iff_not] using h
      rcases Nat.lt_or_ge j (zN k) with h | h
      · exact h
      · exfalso; obtain rfl : j = zN k := by omega
        omega
    have e := padI_succ c j
    generalize padI c j = x at hpl e ⊢
    repeat first | refine EffG.mk (obA ?_) | refine obA ?_ | refine chkA ?_
    refine ⟨0, ?_⟩
    repeat first | refine EffG.mk (obA ?_) | refine obA ?_ | refine chkA ?_
    refine nextA (j + 1) [0, 1, 4] (viewA (h3 := ?_))
    rw [e]
    exact ⟨⟨_, rfl, rfl, rfl, id⟩, ⟨_, rfl, rfl, rfl, id⟩, ⟨_, rfl, rfl, congrArg (fun x => D.u8s (x ++ [0])) (show List.take (k + 1 + j) x = x from List.take_of_length_le (by omega)), id⟩, ⟨_, rfl, rfl, rfl, id⟩, trivial⟩
  · obtain rfl : j = zN k := by
      have h1 : (((k + 1 + j) % 64 : Nat) : Int) = 56 := by simpa only [Bool.not_eq_false', decide_eq_true_eq] using h
      unfold zN at hj hz ⊢; omega
    repeat first | refine EffG.mk (obA ?_) | refine obA ?_ | refine chkA ?_
    have hpu := rput8_ac (BitVec.ofInt 64 k * 8)
    rw [BitVec.mul_comm] at hpu
    refine callA hpu [] ?_
    have hpp := nbF_length (BitVec.ofInt 64 k * 8) 8
    rw [BitVec.mul_comm] at hpp
    repeat first | refine EffG.mk (obA ?_) | refine obA ?_ | refine chkA ?_
    refine ⟨0, ?_⟩
    repeat first | refine EffG.mk (obA ?_) | refine obA ?_ | refine chkA ?_
    have hC : List.take (k + 1 + zN k) (padI c (zN k)) ++ List.take 8 (nbF (8 * BitVec.ofInt 64 k) 8) = padF c k := by rw [hP, List.take_of_length_le (by omega), List.take_of_length_le (by omega), BitVec.mul_comm]
    have hz3 : (k + 1 + zN k + 8) % 64 = 0 := by omega
    have hL : k + 1 + zN k + 8 < 70368744177664 := by omega
    generalize padF c k = P at hC hPl hS
    rw [show k + 9 + zN k = k + 1 + zN k + 8 by omega] at hPl
    refine loopG Nat (fun j => [(2, .ptr 1 []), (3, .slice 2 [] 0 (k + 1 + zN k + 8) none), (4, .ptr 3 []), (5, .i64 (64 * j : Nat))]) (fun j => [(0, some ⟨.row .cell, .u8s bs, false⟩),
      (1, some ⟨.arr 32 .cell, .u8s (List.replicate 32 0), true⟩), (2, some ⟨.row .cell, .u8s P, true⟩), (3, some ⟨t8, .u32s (shaI H0 P j), true⟩), gK]) 4
      (fun j => j ≤ P.length / 64) (fun j => P.length / 64 - j) 0 [0, 1, 4, 5] (Nat.zero_le _) (viewA (h3 := ?_)) ?_
    · exact ⟨⟨_, rfl, rfl, rfl, id⟩, ⟨_, rfl, rfl, rfl, id⟩, ⟨_, rfl, rfl, congrArg D.u8s hC, id⟩, ⟨_, rfl, rfl, rfl, id⟩, ⟨_, rfl, rfl, rfl, id⟩, trivial⟩
    generalize k + 1 + zN k + 8 = L at hPl hz3 hL ⊢
    intro j hj
    have hsl := shaI_length H0 P j
    rw [show H0.length = 8 from rfl] at hsl
    repeat first | refine EffG.mk (obA ?_) | refine obA ?_ | refine chkA ?_
    refine Br.split (fun h => ?_) (fun h => ?_)
    · have hj : 64 * j + 64 ≤ L := by have := of_decide_eq_true h; omega
      have e : shaI H0 P (j + 1) = sbF (shaI H0 P j) P (64 * j) := rfl
      have ha := rblock_ac (shaI H0 P j) P (64 * j) none hsl (by omega) (by omega)
      have hsb := sbF_length (shaI H0 P j) P (64 * j)
      rw [hsl] at hsb
      generalize sbF (shaI H0 P j) P (64 * j) = y at e ha hsb
      generalize shaI H0 P j = x at hsl ha ⊢
      repeat first | refine EffG.mk (obA ?_) | refine obA ?_ | refine chkA ?_
      refine callA ha [2] ?_ (hargs := ?_)
      rotate_left
      · exact congrArg (fun d => D.u32s x :: d) (sl_eq (Nat.zero_add _) (show (((64 * j : Nat) : Int) + 64).toNat - ((64 * j : Nat) : Int).toNat = 64 by omega) rfl)
      repeat first | refine EffG.mk (obA ?_) | refine obA ?_ | refine chkA ?_
      refine nextA (j + 1) [0, 1, 2, 3] (viewA (h2 := ?_) (h3 := ?_))
      · rw [show ((64 * (j + 1) : Nat) : Int) = ((64 * j : Nat) : Int) + 64 by omega]
        exact ⟨rfl, rfl, rfl, rfl, trivial⟩
      · rw [e]
        exact ⟨⟨_, rfl, rfl, rfl, id⟩, ⟨_, rfl, rfl, rfl, id⟩, ⟨_, rfl, rfl, rfl, id⟩, ⟨_, rfl, rfl, rfl, id⟩, ⟨_, rfl, rfl, rfl, id⟩, trivial⟩
    · obtain rfl : j = P.length / 64 := by have := of_decide_eq_false h; omega
      rw [hS, ← wbI_out _ hsl]
      generalize shaI H0 P (P.length / 64) = x at hsl ⊢
      repeat first | refine EffG.mk (obA ?_) | refine obA ?_ | refine chkA ?_
      refine loopG Nat (fun i => [(2, .ptr 1 []), (4, .ptr 2 []), (6, .ptr 3 []), (7, .i64 i)]) (fun i => [(0, some ⟨.row .cell, .u8s bs, false⟩), (1, some ⟨.arr 32 .cell, .u8s (List.replicate 32 0), true⟩), (2, some ⟨t8, .u32s x, true⟩),
        (3, some ⟨.arr 32 .cell, .u8s (wbI x i), true⟩), gK]) 4 (fun i => i ≤ 32) (fun i => 32 - i) 0 [0, 1, 3, 4] (Nat.zero_le _) viewA ?_
      intro i hi
      have hol := wbI_length x i
      repeat first | refine EffG.mk (obA ?_) | refine obA ?_ | refine chkA ?_
      refine Br.split (fun h => ?_) (fun h => ?_)
      · have hi : i < 32 := by have := of_decide_eq_true h; omega
        have e : wbI x (i + 1) = (wbI x i).set i ((x.getD (i / 4) 0 >>> (24 - 8 * (i % 4))).setWidth 8) := rfl
        have q1 : Int.tdiv (i : Int) 4 = ((i / 4 : Nat) : Int) := (Int.ofNat_tdiv i 4).symm
        have q2 : Int.tmod (i : Int) 4 = ((i % 4 : Nat) : Int) := (Int.ofNat_tmod i 4).symm
        have q3 : (BitVec.ofInt 64 (24 - 8 * ((i % 4 : Nat) : Int))).toNat = 24 - 8 * (i % 4) := by
          rw [show 24 - 8 * ((i % 4 : Nat) : Int) = ((24 - 8 * (i % 4) : Nat) : Int) by omega, BitVec.ofInt_natCast, BitVec.toNat_ofNat]; omega
        repeat first | rw [q1] | rw [q2] | rw [q3] | refine EffG.mk (obA ?_) | refine obA ?_ | refine chkA ?_
        refine nextA (i + 1) [0, 1, 2, 3] viewA
      · obtain rfl : i = 32 := by have := of_decide_eq_false h; omega
        repeat first | refine EffG.mk (obA ?_) | refine obA ?_ | refine chkA ?_
        refine retA [0]
end Go.Proofs.YtljkjdhkofbgmaaDoor.Av

namespace Go.Proofs.YtljkjdhkofbgmaaDoor.Av
open Go
set_option linter.all false
set_option maxRecDepth 3000

/-! the document's sums with a key -/
def hbI (bs : List (BitVec 8)) (o k : Nat) (x : BitVec 8) : Nat → List (BitVec 8)
  | 0 => List.replicate 64 0
  | i + 1 => if i < k then ((hbI bs o k x i).set i x).set i (bs.getD (o + i) 0 ^^^ x) else (hbI bs o k x i).set i x
theorem hbI_length (bs : List (BitVec 8)) (o k : Nat) (x : BitVec 8) : ∀ i, (hbI bs o k x i).length = 64
  | 0 => rfl
  | i + 1 => by
    rw [hbI]
    split
    · rw [List.length_set, List.length_set, hbI_length bs o k x i]
    · rw [List.length_set, hbI_length bs o k x i]
theorem hbI_at (bs : List (BitVec 8)) (o k : Nat) (x : BitVec 8) : ∀ n, n ≤ 64 → ∀ i, i < n → (hbI bs o k x n).getD i 0 = (if i < k then bs.getD (o + i) 0 else 0) ^^^ x
  | 0, _, i, hi => absurd hi (Nat.not_lt_zero i)
  | n + 1, hn, i, hi => by
    have hl := hbI_length bs o k x n
    rw [hbI]
    by_cases hk : n < k
    · rw [if_pos hk, List.set_set, getD_set (by omega)]
      by_cases h : i = n
      · subst h; rw [if_pos rfl, if_pos hk]
      · rw [if_neg h, hbI_at bs o k x n (by omega) i (by omega)]
    · rw [if_neg hk, getD_set (by omega)]
      by_cases h : i = n
      · subst h; rw [if_pos rfl, if_neg hk]; exact BitVec.zero_xor.symm
      · rw [if_neg h, hbI_at bs o k x n (by omega) i (by omega)]
theorem xsI_at (base key : List (BitVec 8)) (c : BitVec 8) : ∀ n, n ≤ base.length → ∀ i, i < n → (xsI base key c n).getD i 0 = key.getD i 0 ^^^ c
  | 0, _, i, hi => absurd hi (Nat.not_lt_zero i)
  | n + 1, hn, i, hi => by
    rw [xsI, getD_set (by rw [xsI_length]; omega)]
    by_cases h : i = n
    · rw [if_pos h, h]
    · rw [if_neg h, xsI_at base key c n (by omega) i (by omega)]
theorem keyP_at (bs : List (BitVec 8)) (o k : Nat) (h : o + k ≤ bs.length) (i : Nat) : (keyP ((bs.drop o).take k)).getD i 0 = if i < k then bs.getD (o + i) 0 else 0 := by
  have hl : ((bs.drop o).take k).length = k := by rw [List.length_take, List.length_drop]; omega
  unfold keyP
  by_cases hi : i < k
  · rw [if_pos hi, getD_append_left (by omega), getD_take hi, getD_drop]
  · rw [if_neg hi]
    simp only [List.getD_eq_getElem?_getD]
    rw [List.getElem?_append_right (by omega), List.getElem?_replicate]
    split <;> rfl
theorem hb_ip (bs : List (BitVec 8)) (o k : Nat) (h : o + k ≤ bs.length) (hk : k ≤ 64) : hbI bs o k 0x36 64 = ipF ((bs.drop o).take k) := by
  have hl : ((bs.drop o).take k).length = k := by rw [List.length_take, List.length_drop]; omega
  have hp := keyP_length (key := (bs.drop o).take k) (by omega)
  have h1 := ipF_length (key := (bs.drop o).take k) (by omega)
  have h2 := hbI_length bs o k 0x36 64
  refine eq_getD (by rw [h1, h2]) fun i hi => ?_
  rw [hbI_at bs o k _ 64 (Nat.le_refl _) i (by omega), ipF, xsI_at _ _ _ 64 (by omega) i (by omega), keyP_at bs o k h]
theorem hb_op (bs : List (BitVec 8)) (o k : Nat) (h : o + k ≤ bs.length) : hbI bs o k 0x5c 64 = opF ((bs.drop o).take k) := by
  have h1 := opF_length ((bs.drop o).take k)
  have h2 := hbI_length bs o k 0x5c 64
  refine eq_getD (by rw [h1, h2]) fun i hi => ?_
  rw [hbI_at bs o k _ 64 (Nat.le_refl _) i (by omega), opF, xsI_at _ _ _ 64 (by rw [List.length_replicate]; omega) i (by omega), keyP_at bs o k h]

theorem hblock_ac (bs : List (BitVec 8)) (o k : Nat) (cap : Option Nat) (x : BitVec 8) (h : o + k ≤ bs.length) (hk : k ≤ 64) :
    AC Tryd.prog 55 [.slice 0 [] o k cap, .u8 x] 1 [(0, some ⟨.row .cell, .u8s bs, false⟩)] ⟨.slice 1 [] 0 64 none, [], [(.row .cell, .u8s (hbI bs o k x 64))]⟩ := by
  refine acA tab mix Tryd.func55 {} ?_
  repeat first | refine EffG.mk (obA ?_) | refine obA ?_ | refine chkA ?_ | refine brY ?_ | refine brN ?_
  refine loopG Nat (fun i => [(0, .slice 0 [] o k cap), (1, .u8 x), (6, .slice 1 [] 0 64 none), (7, .i64 i)]) (fun i => [(0, some ⟨.row .cell, .u8s bs, false⟩), (1, some ⟨.row .cell, .u8s (hbI bs o k x i), true⟩)]) 2 (fun i => i ≤ 64) (fun i => 64 - i) 0 [0, 1] (Nat.zero_le _) viewA ?_
  intro i hi
  have hl := hbI_length bs o k x i
  repeat first | refine EffG.mk (obA ?_) | refine obA ?_ | refine chkA ?_
  refine Br.split (fun h => ?_) (fun h => ?_)
  · have hi : i < 64 := by have := of_decide_eq_true h; omega
    repeat first | refine EffG.mk (obA ?_) | refine obA ?_ | refine chkA ?_
    refine Br.split (fun h => ?_) (fun h => ?_)
    · have hik : i < k := by have := of_decide_eq_true h; omega
      have e : hbI bs o k x (i + 1) = ((hbI bs o k x i).set i x).set i (bs.getD (o + i) 0 ^^^ x) := by rw [hbI, if_pos hik]
      repeat first | refine EffG.mk (obA ?_) | refine obA ?_ | refine chkA ?_
      refine nextA (i + 1) [0, 1] (viewA (h3 := ?_))
      rw [e]
      exact ⟨⟨_, rfl, rfl, rfl, id⟩, ⟨_, rfl, rfl, by rw [Nat.zero_add]; rfl, id⟩, trivial⟩
    · have hik : ¬ i < k := by have := of_decide_eq_false h; omega
      have e : hbI bs o k x (i + 1) = (hbI bs o k x i).set i x := by rw [hbI, if_neg hik]
      repeat first | refine EffG.mk (obA ?_) | refine obA ?_ | refine chkA ?_
      refine nextA (i + 1) [0, 1] (viewA (h3 := ?_))
      rw [e]
      exact ⟨⟨_, rfl, rfl, rfl, id⟩, ⟨_, rfl, rfl, by rw [Nat.zero_add]; rfl, id⟩, trivial⟩
  · obtain rfl : i = 64 := by have := of_decide_eq_false h; omega
    repeat first | refine EffG.mk (obA ?_) | refine obA ?_ | refine chkA ?_
    refine retA [0, 1]

theorem rhof_ac (ks bs : List (BitVec 8)) (p k q l : Nat) (c d : Option Nat) (ha : p + k ≤ ks.length) (hb : q + l ≤ bs.length) (hk : k ≤ 64) (hl : l ≤ 30000000000000) :
    AC Tryd.prog 36 [.slice 0 [] p k c, .slice 1 [] q l d] 2 [(0, some ⟨.row .cell, .u8s ks, false⟩), (1, some ⟨.row .cell, .u8s bs, false⟩), gK] ⟨.u8s (hmF ((ks.drop p).take k) ((bs.drop q).take l)), [], []⟩ := by
  have hbl : ((bs.drop q).take l).length = l := by rw [List.length_take, List.length_drop]; omega
  have hkl : ((ks.drop p).take k).length = k := by rw [List.length_take, List.length_drop]; omega
  have hi := hblock_ac ks p k c 0x36 ha hk
  have ho := hblock_ac ks p k c 0x5c ha hk
  rw [hb_ip ks p k ha hk] at hi
  rw [hb_op ks p k ha] at ho
  have e : hmF ((ks.drop p).take k) ((bs.drop q).take l) = shaF (opF ((ks.drop p).take k) ++ shaF (ipF ((ks.drop p).take k) ++ (bs.drop q).take l)) := rfl
  have hO := opF_length ((ks.drop p).take k)
  have hN := ipF_length (key := (ks.drop p).take k) (by omega)
  generalize hmF ((ks.drop p).take k) ((bs.drop q).take l) = y at e ⊢
  generalize opF ((ks.drop p).take k) = O at ho e hO
  generalize ipF ((ks.drop p).take k) = N at hi e hN
  have hs1 := rof_ac (List.take 64 N ++ (bs.drop q).take l) 0 (64 + l) none (by rw [List.length_append, hbl, List.take_of_length_le (by omega), hN]; omega) (by omega)
  rw [List.drop_zero, List.take_of_length_le (l := List.take 64 N ++ _) (by rw [List.length_append, hbl, List.length_take]; omega)] at hs1
  have hNt : List.take 64 N = N := List.take_of_length_le (by omega)
  have hs1l := shaF_length (List.take 64 N ++ (bs.drop q).take l)
  rw [hNt] at hs1 hs1l
  generalize shaF (N ++ (bs.drop q).take l) = z at hs1 hs1l e
  have hs2 := rof_ac (O ++ z) 0 (64 + 32) none (by rw [List.length_append]; omega) (by decide)
  rw [List.drop_zero, List.take_of_length_le (l := O ++ z) (by rw [List.length_append]; omega), ← e] at hs2
  have hy : y.length = 32 := by rw [e]; exact shaF_length _
  refine acA tab mix Tryd.func36 {} ?_
  repeat first | refine EffG.mk (obA ?_) | refine obA ?_ | refine chkA ?_
  refine callA hi [0] ?_
  repeat first | refine EffG.mk (obA ?_) | refine obA ?_ | refine chkA ?_
  refine ⟨0, ?_⟩
  repeat first | refine EffG.mk (obA ?_) | refine obA ?_ | refine chkA ?_
  refine callA hs1 [4] ?_ (hm := ?_)
  rotate_left
  · exact ⟨⟨_, rfl, rfl, congrArg (fun x => D.u8s (x ++ (bs.drop q).take l)) hNt, fun _ => rfl⟩, ⟨_, rfl, rfl, rfl, id⟩, trivial⟩
  repeat first | refine EffG.mk (obA ?_) | refine obA ?_ | refine chkA ?_
  refine callA ho [0] ?_
  repeat first | refine EffG.mk (obA ?_) | refine obA ?_ | refine chkA ?_
  refine ⟨0, ?_⟩
  repeat first | refine EffG.mk (obA ?_) | refine obA ?_ | refine chkA ?_
  refine callA hs2 [7] ?_ (hm := ?_)
  rotate_left
  · exact ⟨⟨_, rfl, rfl, congrArg (fun x => D.u8s x) (show List.take 64 O ++ List.take 32 z = O ++ z by rw [List.take_of_length_le (by omega), List.take_of_length_le (by omega)]), fun _ => rfl⟩, ⟨_, rfl, rfl, rfl, id⟩, trivial⟩
  repeat first | refine EffG.mk (obA ?_) | refine obA ?_ | refine chkA ?_
  refine retA [0, 1]

theorem rlabel_ac (key l : List (BitVec 8)) (hk : key.length = 32) (hl : l.length ≤ 100) : AC Tryd.prog 35 [.u8s key, .str l] 0 [gK] ⟨.u8s (labF key l), [], []⟩ := by
  have hol : (oursF ++ l).length = 10 + l.length := by rw [List.length_append]; rfl
  have ho := rhof_ac key (oursF ++ l) 0 32 0 (oursF ++ l).length (some 32) none (by omega) (by omega) (by decide) (by omega)
  have e : labF key l = hmF key (oursF ++ l) := rfl
  rw [List.drop_zero, List.drop_zero, List.take_of_length_le (by omega), List.take_of_length_le (Nat.le_refl _), ← e] at ho
  have hy := labF_length key l
  generalize labF key l = y at ho hy ⊢
  refine acA tab mix Tryd.func35 {} ?_
  repeat first | refine EffG.mk (obA ?_) | refine obA ?_ | refine chkA ?_
  refine callA (ho.arr 0 32) [0, 2] ?_
  repeat first | refine EffG.mk (obA ?_) | refine obA ?_ | refine chkA ?_
  refine retA []
end Go.Proofs.YtljkjdhkofbgmaaDoor.Av

namespace Go.Proofs.YtljkjdhkofbgmaaDoor.Av
open Go
set_option linter.all false
set_option maxRecDepth 3000

/-! the document's wrapped keys -/
abbrev gBK : Mem := [(gid 0, some ⟨t256, .u8s boxL, false⟩), gK]
def rmI (k a b : List (BitVec 8)) : Nat → List (BitVec 8)
  | 0 => k
  | i + 1 => ((rmI k a b i).set i ((rmI k a b i).getD i 0 ^^^ a.getD i 0)).set (16 + (i : Int)).toNat (((rmI k a b i).set i ((rmI k a b i).getD i 0 ^^^ a.getD i 0)).getD (16 + (i : Int)).toNat 0 ^^^ b.getD i 0)
theorem rmI_length (k a b : List (BitVec 8)) : ∀ i, (rmI k a b i).length = k.length
  | 0 => rfl
  | i + 1 => by rw [rmI, List.length_set, List.length_set, rmI_length k a b i]
theorem rmI_at (k a b : List (BitVec 8)) (hk : k.length = 32) : ∀ n, n ≤ 16 → ∀ j, (rmI k a b n).getD j 0 = if j < n then k.getD j 0 ^^^ a.getD j 0 else if 16 ≤ j ∧ j < 16 + n then k.getD j 0 ^^^ b.getD (j - 16) 0 else k.getD j 0
  | 0, _, j => by rw [if_neg (by omega), if_neg (by omega)]; rfl
  | n + 1, hn, j => by
    have hl := rmI_length k a b n
    rw [rmI, show (16 + (n : Int)).toNat = 16 + n by omega, getD_set (by rw [List.length_set]; omega), getD_set (by omega), getD_set (by omega), rmI_at k a b hk n (by omega), rmI_at k a b hk n (by omega), rmI_at k a b hk n (by omega)]
    repeat' split
    all_goals first | (exfalso; omega) | rfl | (subst_vars; first | rfl | (exfalso; omega) | (rw [show 16 + n - 16 = n by omega]))
theorem rm_mask (by_ k : List (BitVec 8)) (hk : k.length = 32) : rmI k (encI (schedF (labF by_ wrapS)) (blkN 0) 14) (encI (schedF (labF by_ wrapS)) (blkN 1) 14) 16 = maskF by_ k := by
  refine eq_getD (by rw [rmI_length, maskF_length]) fun j hj => ?_
  rw [rmI_length, hk] at hj
  rw [rmI_at _ _ _ hk 16 (Nat.le_refl _), maskF_at _ _ hk j hj]
  unfold mkB
  by_cases h : j < 16
  · rw [if_pos h, if_pos h]
  · rw [if_neg h, if_pos (by omega), if_neg h]

theorem rmasked_ac (b k : List (BitVec 8)) (hb : b.length = 32) (hk : k.length = 32) : AC Tryd.prog 32 [.u8s b, .u8s k] 0 gBK ⟨.u8s (maskF b k), [], []⟩ := by
  have e := rm_mask b k hk
  have hl := rlabel_ac b wrapS hb (by decide)
  have hll := labF_length b wrapS
  generalize labF b wrapS = x at e hl hll
  have hr : Rows 15 16 (schedF x) := ⟨schedF_length x, schedF_lens x hll⟩
  have hs := rsch_ac x hll
  rw [rsch_eq x hll] at hs
  generalize schedF x = ks at e hr hs
  have h0 := renc_ac ks (blkN 0) rfl hr
  have h1 := renc_ac ks (blkN 1) rfl hr
  rw [renc_eq] at h0 h1
  have l0 := encI_length ks (blkN 0) rfl 14
  have l1 := encI_length ks (blkN 1) rfl 14
  generalize encI ks (blkN 0) 14 = p at e h0 l0
  generalize encI ks (blkN 1) 14 = q at e h1 l1
  refine acA tab mix Tryd.func32 {} ?_
  repeat first | refine EffG.mk (obA ?_) | refine obA ?_ | refine chkA ?_
  refine callA hl [] ?_
  repeat first | refine EffG.mk (obA ?_) | refine obA ?_ | refine chkA ?_
  refine callR hs [] (.node (ks.map .u8s)) [] rfl rfl ⟨⟨_, rfl, rfl, rfl, id⟩, trivial⟩ rfl rfl (ren_rows _ ks) rfl ?_
  repeat first | refine EffG.mk (obA ?_) | refine obA ?_ | refine chkA ?_
  refine EffG.mk (And.intro ⟨trivial, hr.ty⟩ ?_)
  repeat first | refine EffG.mk (obA ?_) | refine obA ?_ | refine chkA ?_
  refine callA h0 [] ?_ (hargs := congrArg (fun d => [d, D.u8s (blkN 0)]) (ren_rows _ ks).symm)
  repeat first | refine EffG.mk (obA ?_) | refine obA ?_ | refine chkA ?_
  refine callA h1 [] ?_ (hargs := congrArg (fun d => [d, D.u8s (blkN 1)]) (ren_rows _ ks).symm)
  repeat first | refine EffG.mk (obA ?_) | refine obA ?_ | refine chkA ?_
  refine loopG Nat (fun i => [(3, .ptr 1 []), (4, .ptr 2 []), (6, .ptr 3 []), (7, .ptr 4 []), (8, .i64 i)]) (fun i => [(1, some ⟨t32, .u8s (rmI k p q i), true⟩), (2, some ⟨t32, .u8s (List.replicate 32 0), true⟩), (3, some ⟨t16, .u8s p, true⟩), (4, some ⟨t16, .u8s q, true⟩), (gid 0, some ⟨t256, .u8s boxL, false⟩), gK]) 5
    (fun i => i ≤ 16) (fun i => 16 - i) 0 [0, 1, 2, 4, 5] (Nat.zero_le _) viewA ?_
  intro i hi
  have hx := rmI_length k p q i
  rw [hk] at hx
  repeat first | refine EffG.mk (obA ?_) | refine obA ?_ | refine chkA ?_
  refine Br.split (fun h => ?_) (fun h => ?_)
  · have hi : i < 16 := by have := of_decide_eq_true h; omega
    repeat first | refine EffG.mk (obA ?_) | refine obA ?_ | refine chkA ?_
    refine nextA (i + 1) [0, 1, 2, 3, 4] viewA
  · obtain rfl : i = 16 := by have := of_decide_eq_false h; omega
    rw [e] at hx ⊢
    repeat first | refine EffG.mk (obA ?_) | refine obA ?_ | refine chkA ?_
    refine retA []
end Go.Proofs.YtljkjdhkofbgmaaDoor.Av

namespace Go.Proofs.YtljkjdhkofbgmaaDoor.Av
open Go
set_option linter.all false
set_option maxRecDepth 3000

theorem rcheck_ac (b s : List (BitVec 8)) (hb : b.length = 32) (hs : s.length = 32) : AC Tryd.prog 21 [.u8s b, .u8s s] 0 [gK] ⟨.u8s (chkF b s), [], []⟩ := by
  have e : chkF b s = hmF (labF b checkS) s := rfl
  have hl := rlabel_ac b checkS hb (by decide)
  have hll := labF_length b checkS
  generalize labF b checkS = x at e hl hll
  have ho := rhof_ac x s 0 32 0 32 (some 32) (some 32) (by omega) (by omega) (by decide) (by decide)
  rw [List.drop_zero, List.take_of_length_le (by omega), List.drop_zero, List.take_of_length_le (by omega), ← e] at ho
  have hy := chkF_length b s
  generalize chkF b s = y at ho hy ⊢
  refine acA tab mix Tryd.func21 {} ?_
  repeat first | refine EffG.mk (obA ?_) | refine obA ?_ | refine chkA ?_
  refine callA hl [] ?_
  repeat first | refine EffG.mk (obA ?_) | refine obA ?_ | refine chkA ?_
  refine callA ((ho.arr 0 32).arr 1 32) [3, 1] ?_
  repeat first | refine EffG.mk (obA ?_) | refine obA ?_ | refine chkA ?_
  refine retA []
theorem rseal_ac (b k : List (BitVec 8)) (hb : b.length = 32) (hk : k.length = 32) : AC Tryd.prog 19 [.u8s b, .u8s k] 0 gBK ⟨.tup [.u8s (maskF b k), .u8s (chkF b (maskF b k))], [], []⟩ := by
  have hm := rmasked_ac b k hb hk
  have hy := maskF_length b k
  rw [hk] at hy
  generalize maskF b k = y at hm hy ⊢
  have hc := rcheck_ac b y hb hy
  have hz := chkF_length b y
  generalize chkF b y = z at hc hz ⊢
  refine acA tab mix Tryd.func19 {} ?_
  repeat first | refine EffG.mk (obA ?_) | refine obA ?_ | refine chkA ?_
  refine callA hm [] ?_
  repeat first | refine EffG.mk (obA ?_) | refine obA ?_ | refine chkA ?_
  refine callA hc [] ?_
  repeat first | refine EffG.mk (obA ?_) | refine obA ?_ | refine chkA ?_
  refine retA []
theorem ropen_ac (b s c : List (BitVec 8)) (hb : b.length = 32) (hs : s.length = 32) (hc : c.length = 32) :
    AC Tryd.prog 24 [.u8s b, .u8s s, .u8s c] 0 gBK ⟨.tup [.u8s (if chkF b s = c then maskF b s else List.replicate 32 0), .i64 (if chkF b s = c then 0 else 30)], [], []⟩ := by
  have hm := rmasked_ac b s hb hs
  have hy := maskF_length b s
  rw [hs] at hy
  generalize maskF b s = y at hm hy ⊢
  have hk := rcheck_ac b s hb hs
  have hz := chkF_length b s
  generalize chkF b s = z at hk hz ⊢
  refine acA tab mix Tryd.func24 {} ?_
  repeat first | refine EffG.mk (obA ?_) | refine obA ?_ | refine chkA ?_
  refine callA hk [] ?_
  repeat first | refine EffG.mk (obA ?_) | refine obA ?_ | refine chkA ?_
  by_cases h : z = c
  · rw [if_pos h, if_pos h]
    refine Br.no (neN h) ?_
    repeat first | refine EffG.mk (obA ?_) | refine obA ?_ | refine chkA ?_
    refine callA hm [] ?_
    repeat first | refine EffG.mk (obA ?_) | refine obA ?_ | refine chkA ?_
    refine retA []
  · rw [if_neg h, if_neg h]
    refine Br.yes (neY h) ?_
    repeat first | refine EffG.mk (obA ?_) | refine obA ?_ | refine chkA ?_
    refine retA []

abbrev gRBK : Mem := [gR, (gid 0, some ⟨t256, .u8s boxL, false⟩), gK]
theorem wrapseals_ac (b k : List (BitVec 8)) (hb : b.length = 32) (hk : k.length = 32) : AC Tryd.prog 5 [.u8s b, .u8s k] 0 gRBK ⟨.bool true, [], []⟩ := by
  have h1 := wseal_ac b k hb hk
  have h2 := rseal_ac b k hb hk
  have l1 := maskF_length b k
  rw [hk] at l1
  have l2 := chkF_length b (maskF b k)
  have h3 := check_ac b k hb hk
  have h4 := rcheck_ac b k hb hk
  have l3 := chkF_length b k
  have haw := wawake_ac
  generalize maskF b k = s at *
  generalize chkF b s = c at *
  generalize chkF b k = d at *
  refine acA tab mix Tryd.func5 {} ?_
  repeat first | refine EffG.mk (obA ?_) | refine obA ?_ | refine chkA ?_
  refine callA h1 [] ?_
  repeat first | refine EffG.mk (obA ?_) | refine obA ?_ | refine chkA ?_
  refine callA h2 [] ?_
  repeat first | refine EffG.mk (obA ?_) | refine obA ?_ | refine chkA ?_ | refine brY ?_ | refine brN ?_
  refine callA h3 [] ?_
  repeat first | refine EffG.mk (obA ?_) | refine obA ?_ | refine chkA ?_ | refine brY ?_ | refine brN ?_
  refine callA h4 [] ?_
  repeat first | refine EffG.mk (obA ?_) | refine obA ?_ | refine chkA ?_ | refine brY ?_ | refine brN ?_
  refine callA haw [] ?_
  repeat first | refine EffG.mk (obA ?_) | refine obA ?_ | refine chkA ?_ | refine brY ?_ | refine brN ?_
  refine retA []
theorem wrapopens_ac (b s c : List (BitVec 8)) (hb : b.length = 32) (hs : s.length = 32) (hc : c.length = 32) : AC Tryd.prog 6 [.u8s b, .u8s s, .u8s c] 0 gRBK ⟨.bool true, [], []⟩ := by
  have h1 := open_ac b s c hb hs hc
  have h2 := ropen_ac b s c hb hs hc
  have h3 := rcheck_ac b s hb hs
  have h4 := open_ac b s (chkF b s) hb hs (chkF_length _ _)
  have h5 := ropen_ac b s (chkF b s) hb hs (chkF_length _ _)
  rw [if_pos rfl, if_pos rfl] at h4 h5
  have l1 := maskF_length b s
  rw [hs] at l1
  have l2 : (if chkF b s = c then maskF b s else List.replicate 32 0).length = 32 := by
    split
    · exact l1
    · rfl
  have l3 := chkF_length b s
  have haw := wawake_ac
  generalize (if chkF b s = c then maskF b s else List.replicate 32 0) = m at *
  generalize (if chkF b s = c then (0 : Int) else 30) = e at *
  generalize maskF b s = y at *
  generalize chkF b s = d at *
  refine acA tab mix Tryd.func6 {} ?_
  repeat first | refine EffG.mk (obA ?_) | refine obA ?_ | refine chkA ?_
  refine callA h1 [] ?_
  repeat first | refine EffG.mk (obA ?_) | refine obA ?_ | refine chkA ?_
  refine callA h2 [] ?_
  repeat first | refine EffG.mk (obA ?_) | refine obA ?_ | refine chkA ?_
  refine callA h3 [] ?_
  repeat first | refine EffG.mk (obA ?_) | refine obA ?_ | refine chkA ?_
  refine callA h4 [] ?_
  repeat first | refine EffG.mk (obA ?_) | refine obA ?_ | refine chkA ?_
  refine callA h3 [] ?_
  repeat first | refine EffG.mk (obA ?_) | refine obA ?_ | refine chkA ?_
  refine callA h5 [] ?_
  repeat first | refine EffG.mk (obA ?_) | refine obA ?_ | refine chkA ?_ | refine brY ?_ | refine brN ?_
  refine callA haw [] ?_
  repeat first | refine EffG.mk (obA ?_) | refine obA ?_ | refine chkA ?_ | refine brY ?_ | refine brN ?_
  refine retA []
end Go.Proofs.YtljkjdhkofbgmaaDoor.Av

namespace Go.Proofs.YtljkjdhkofbgmaaDoor.Av
open Go Go.ChangeShapes Go.WideShapes
set_option linter.all false
set_option maxRecDepth 3000

/-! from a contract to a row of a law over plain data -/

theorem calls_bool {P : Program} {f : Nat} {args : List D} (h : AC P f args 0 [] ⟨.bool true, [], []⟩) {W : World} {vals : List Value} (hv : All2 (Rep (fun _ => none)) args vals) :
    Calls P f vals.toArray W fun e W' => e = .returned (.bool true) ∧ W'.os = W.os ∧ W'.output = W.output ∧ W.heap.size ≤ W'.heap.size ∧ ∀ b, b < W.heap.size → W'.heap[b]? = W.heap[b]? := by
  refine (h.2 (fun _ => none) W vals hv ⟨(fun _ _ h => nomatch h), (fun i e h => nomatch h), (fun i j ei ej Li Lj h => nomatch h), (fun i e L h => nomatch h), fun _ _ _ => rfl, Nat.le_refl _, rfl, rfl, rfl⟩ (fun i h => absurd rfl h)).mono fun e W' ⟨v, ρ', he, _, _, hr, hI⟩ => ?_
  have hr : v = .bool true := hr
  subst hr
  exact ⟨he, hI.os, hI.out, hI.size, fun b hb => hI.ext b hb (fun ⟨i, e, L, h, _⟩ => nomatch h)⟩

/-- the same, where the code reads one of the package's variables -/
theorem calls_bool_g {P : Program} {f : Nat} {args : List D} (g : Nat) {T : Ty} {d : D} (h : AC P f args 0 [(gid g, some ⟨T, d, false⟩)] ⟨.bool true, [], []⟩) {W : World} {vals : List Value} (hv : All2 (Rep (fun _ => none)) args vals)
    {L : Loc} (hL : L.blk = g ∧ L.base = 0) (hs : SatE (fun _ => none) ⟨T, d, false⟩ L W) :
    Calls P f vals.toArray W fun e W' => e = .returned (.bool true) ∧ W'.os = W.os ∧ W'.output = W.output ∧ W.heap.size ≤ W'.heap.size ∧ ∀ b, b < W.heap.size → W'.heap[b]? = W.heap[b]? := by
  let ρ0 : Env := fun i => if i = gid g then some L else none
  have hle : Env.le (fun _ => none) ρ0 := fun i L h => by cases h
  have hget : ∀ i e, get [(gid g, some ⟨T, d, false⟩)] i = some e → i = gid g ∧ e = ⟨T, d, false⟩ := fun i e h => by
    rw [get_cons] at h
    split at h
    · rename_i e1; cases h; exact ⟨e1.symm, rfl⟩
    · cases h
  refine (h.2 ρ0 W vals (hv.mono fun a b hab => Rep.mono hle hab)
    ⟨fun g' L' h' => ?_, fun i e hi => ?_, fun i j ei ej Li Lj hi hj hne hr => ?_, fun i e L' hi hr => ?_, fun _ _ _ => rfl, Nat.le_refl _, rfl, rfl, rfl⟩ (fun i hi => ?_)).mono fun e W' ⟨v, ρ', he, _, _, hr, hI⟩ => ?_
  · have h' : (if gid g' = gid g then some L else none) = some L' := h'
    split at h'
    · rename_i e1
      cases h'
      have : g' = g := by unfold gid at e1; omega
      rw [this]; exact hL
    · cases h'
  · obtain ⟨rfl, rfl⟩ := hget i e hi
    exact ⟨L, if_pos rfl, hs.mono hle⟩
  · obtain ⟨_, rfl⟩ := hget i ei hi
    cases hr
  · obtain ⟨_, rfl⟩ := hget i e hi
    cases hr
  · have hi : (if i = gid g then some L else none) ≠ none := hi
    split at hi
    · rename_i e1
      right; rw [e1]; unfold gid; omega
    · exact absurd rfl hi
  · have hr : v = .bool true := hr
    subst hr
    refine ⟨he, hI.os, hI.out, hI.size, fun b hb => hI.ext b hb (fun ⟨i, e, L', h1, h2, _⟩ => ?_)⟩
    obtain ⟨_, rfl⟩ := hget i e h1
    cases h2

/-- a variable that is an array of bytes, as its reading says -/
theorem sat_u8s {P : Program} {W : World} {name : String} {g t e n : Nat} (hg : P.globalNamed name = some g) (hty : (P.globals[g]?).map (·.type) = some t) (ht : P.underlying t = some (.array n e)) (he : P.underlying e = some (.int .u8))
    (hc : P.cellsOf e = 1) (hs : P.cellsOf t = n) {l : List (BitVec 8)} (hl : l.length = n) (h : Lib.VarReads P W name (.agg (l.map fun b => .lit (.int .u8 b.toNat)))) :
    SatE (fun _ => none) ⟨.arr n .cell, .u8s l, false⟩ ⟨g, 0, n, .arr n .cell⟩ W := by
  obtain ⟨g', t', cs, fuel, p, q1, q2, q3, q4⟩ := h
  obtain rfl := Option.some.inj (hg.symm.trans q1)
  obtain rfl := Option.some.inj (hty.symm.trans q2)
  have hcs : cs.toList = (l.map fun b => (b.toNat : Int)).map fun z => Value.int .u8 z := by
    have q5 : DataW.trod (fun _ => ()) P W 0 (fun _ => true) false fuel t cs.toList = some (Lib.tabData .u8 (l.map fun b => (b.toNat : Int)), p) := by
      rw [q4]; unfold Lib.tabData; rw [List.map_map]; rfl
    exact Lib.cells_of_tab ht he hc hs q5
  simp only [World.var?, hg, Option.bind_some] at q3
  split at q3 <;> try contradiction
  rename_i C T fr hC
  cases q3
  have hlen : cs.size = n := by
    have := congrArg List.length hcs
    simpa [hl] using this
  refine ⟨rfl, ?_, hl, cs, T, fr, [], cs.toList, [], hC, by simp, rfl, hlen, ?_, fun h => by cases h⟩
  · exact trivial
  · rw [hcs, List.map_map]
    show All2 _ (l.map D.u8) _
    have : ∀ l : List (BitVec 8), All2 (RepS (fun _ => none)) (l.map D.u8) (l.map ((fun z => Value.int .u8 z) ∘ fun b => (b.toNat : Int))) := by
      intro l
      induction l with
      | nil => trivial
      | cons a r ih => exact ⟨rfl, ih⟩
    exact this l

theorem rep_u8 {ρ : Env} {n : Int} (h : (Lit.int .u8 n).wf = true) : Rep ρ (.u8 (BitVec.ofNat 8 n.toNat)) (.int .u8 n) := by
  simp only [Lit.wf, Bool.and_eq_true, decide_eq_true_eq] at h
  have h1 : (0 : Int) ≤ n := h.1
  have h2 : n < 256 := by
    have := h.2
    have e : IntKind.u8.max = 255 := by decide
    omega
  show Value.int _ _ = .int _ _
  congr 1
  simp; omega

theorem kept_of_same {W W' : World} (ho : W'.os = W.os) (hp : W'.output = W.output) (hs : ∀ b, b < W.heap.size → W'.heap[b]? = W.heap[b]?) (may : MemPlace → Prop) : W.keptBut W' may := by
  refine ⟨ho, hp, fun i hi => ?_⟩
  rw [hs i hi]
  split
  · rename_i h1 h2
    rw [h1] at h2; cases h2
    exact ⟨rfl, rfl, rfl, fun _ _ => rfl⟩
  · rename_i h1 h2
    rw [h1] at h2; cases h2
    exact .inr ⟨rfl, rfl⟩
  · rfl

section
variable {H : Type} {enc : TypeId × Value → H} {P : Program}
theorem post_flat {f : Func} {s : ChangeSpec} {apart fresh handsOn : Bool} {W W' : World} {args : Array Value} {v : Value} {ds gs : List (DataW H)}
    (hW : DataW.Whole enc P f.params.toList s.vars apart W args.toList ds gs [])
    (hres : ∀ (b : Nat) (sp : Nat → Bool) (hd : Bool), DataW.TrodAll enc P W' b sp hd f.resultTypes.toList (v.resultList f.resultTypes.size) (s.fn H (ds ++ gs)).results [])
    (hargs : ∀ sp : Nat → Bool, DataW.TrodAll enc P W' 0 sp true f.params.toList args.toList (s.fn H (ds ++ gs)).args [])
    (hvars : ∀ sp : Nat → Bool, DataW.TrodVars enc P W' sp s.vars (s.fn H (ds ++ gs)).vars [])
    (hk : W.keptBut W' (fun _ => False)) : s.post enc P f apart fresh handsOn false W args v W' :=
  ⟨ds, gs, [], [], [], [], hW, hres _ _ _, hargs _, hvars _, World.keptBut_mono (fun _ h => h.elim) hk, (fun h => nomatch h)⟩

theorem mapM_none {α β : Type} {f g : α → Option (β × List MemPlace)} : ∀ {l : List α} {r : List (β × List MemPlace)}, l.mapM f = some r → (∀ x y, x ∈ l → f x = some y → y.2 = [] ∧ g x = some y) → l.mapM g = some r ∧ r.flatMap (·.2) = []
  | [], r, h, _ => by
    simp at h; subst h; exact ⟨rfl, rfl⟩
  | a :: l, r, h, hfg => by
    rw [List.mapM_cons] at h ⊢
    simp only [bind, Option.bind_eq_some_iff, pure, Option.some.injEq] at h
    obtain ⟨y, hy, ys, hys, rfl⟩ := h
    obtain ⟨h1, h2⟩ := hfg a y (by simp) hy
    obtain ⟨h3, h4⟩ := mapM_none hys (fun x y hx => hfg x y (List.mem_cons_of_mem _ hx))
    rw [h2, h3]
    exact ⟨rfl, by rw [List.flatMap_cons, h1, h4]; rfl⟩

/-- an array of bytes by value: its bytes; it reads so anywhere -/
theorem open_u8s {t e : TypeId} {n : Nat} (ht : P.underlying t = some (.array n e)) (he : P.underlying e = some (.int .u8)) (hc : P.cellsOf e = 1) (hs : P.cellsOf t = n) {r : Reach} {b0 base : Nat} {W : World} {v : Value} {d : DataW H} {ps : List MemPlace}
    {sp : Nat → Bool} {held : Bool} (hval : Value.okWide P W r b0 t v) (hd : DataW.Trod enc P W base sp held t v d ps) :
    ∃ l : List (BitVec 8), l.length = n ∧ ps = [] ∧ (∀ ρ, Rep ρ (.u8s l) v) ∧ ∀ (W' : World) (base' : Nat) (sp' : Nat → Bool) (held' : Bool), DataW.Trod enc P W' base' sp' held' t v d [] := by
  simp only [Value.okWide, ht] at hval
  obtain ⟨xs, rfl, hn, _⟩ := hval
  obtain ⟨fuel, hf⟩ := hd
  have hcells : (Value.agg xs).cells.toList = xs.toList := by simp [Value.cells]
  rw [hcells] at hf
  obtain ⟨ys, m, rfl, hx, hl, hys, hi⟩ := DataW.trod_array ht hf
  have hcell : ∀ i, i < n → ∃ a, (xs.toList.drop (i * P.cellsOf e)).take (P.cellsOf e) = [.int .u8 a] ∧ (Lit.int .u8 a).wf = true := by
    intro i hin
    have h := hi i hin
    rw [List.getElem?_eq_getElem (by omega)] at h
    obtain ⟨a, h1, _, h2⟩ := DataW.trod_int he h
    exact ⟨a, h1, h2⟩
  have hget : ∀ i, i < n → ∃ a, xs.toList[i]? = some (.int .u8 a) ∧ (Lit.int .u8 a).wf = true := by
    intro i hin
    obtain ⟨a, h1, h2⟩ := hcell i hin
    rw [hc, Nat.mul_one] at h1
    refine ⟨a, ?_, h2⟩
    have := congrArg (·[0]?) h1
    simpa [List.getElem?_take, List.getElem?_drop] using this
  have hlen : xs.toList.length = n := by rw [hl, hs]
  have key : ∀ (cs : List Value), (∀ i, i < cs.length → ∃ a, cs[i]? = some (.int .u8 a) ∧ (Lit.int .u8 a).wf = true) → ∃ l : List (BitVec 8), l.length = cs.length ∧ ∀ ρ, All2 (RepS ρ) (l.map D.u8) cs := by
    intro cs
    induction cs with
    | nil => intro _; exact ⟨[], rfl, fun _ => trivial⟩
    | cons c cs ih =>
      intro h
      obtain ⟨a, h1, h2⟩ := h 0 (by simp)
      simp at h1; subst h1
      obtain ⟨l, h3, h4⟩ := ih (fun i hi => by simpa using h (i + 1) (by simpa using hi))
      exact ⟨BitVec.ofNat 8 a.toNat :: l, by simp [h3], fun ρ => ⟨rep_u8 (ρ := ρ) h2, h4 ρ⟩⟩
  obtain ⟨l, h1, h2⟩ := key xs.toList (by rw [hlen]; exact hget)
  have hstay : ∀ (W' : World) (base' : Nat) (sp' : Nat → Bool) (held' : Bool), DataW.trod enc P W' base' sp' held' (m + 1) t xs.toList = some (d, ps) ∧ ps = [] := by
    intro W' base' sp' held'
    unfold DataW.trod at hf ⊢
    rw [ht] at hf ⊢
    simp only [hl, if_true, Option.map_eq_some_iff] at hf ⊢
    obtain ⟨zs, hz, hzx⟩ := hf
    obtain ⟨h3, h4⟩ := mapM_none (g := fun i => DataW.trod enc P W' base' sp' held' m e ((xs.toList.drop (i * P.cellsOf e)).take (P.cellsOf e))) hz (fun i y _ hy => by
      obtain ⟨a, e1, e2, e3⟩ := DataW.trod_int he hy
      rw [e2]
      refine ⟨rfl, ?_⟩
      rw [e1]
      cases m with
      | zero => simp [DataW.trod] at hy
      | succ m => simp [DataW.trod, he, e3])
    refine ⟨⟨zs, h3, hzx⟩, ?_⟩
    have := congrArg Prod.snd hzx
    exact this.symm.trans h4
  refine ⟨l, by rw [h1, hlen], (hstay W 0 sp held).2, fun ρ => ⟨xs.toList, by simp, h2 ρ⟩, fun W' base' sp' held' => ?_⟩
  obtain ⟨h5, h6⟩ := hstay W' base' sp' held'
  refine ⟨m + 1, ?_⟩
  rw [hcells, h5, h6]
end
end Go.Proofs.YtljkjdhkofbgmaaDoor.Av

namespace Go.Proofs.YtljkjdhkofbgmaaDoor.Av
open Go Go.ChangeShapes Go.WideShapes
set_option linter.all false
set_option maxRecDepth 3000

/-! slices of bytes that came in, and are only read -/

section
variable {H : Type} {enc : TypeId × Value → H} {P : Program}

theorem shape_cells {w : World} {b row cells : Nat} (h : w.shape? b = some (row, cells)) : ∃ C t fr, w.heap[b]? = some (.cells C t fr) := by
  unfold World.shape? at h
  split at h
  · rename_i C t fr hC
    exact ⟨C, t, fr, hC⟩
  · cases h

/-- what a slice of bytes gives a walk: its bytes; a place from which it is read; it reads the same wherever its block is as it was -/
theorem open_slice {t e : TypeId} (ht : P.underlying t = some (.slice e)) (he : P.underlying e = some (.int .u8)) (hc : P.cellsOf e = 1) {r : Reach} {b0 : Nat} {W : World} {v : Value} {d : DataW H} {ps : List MemPlace}
    (hval : Value.okWide P W r b0 t v) (hd : DataW.Trod enc P W 0 (fun _ => true) true t v d ps) :
    (v = .slice none 0 0 ∧ ps = [] ∧ ∀ (W' : World) (sp : Nat → Bool), DataW.Trod enc P W' 0 sp true t v d []) ∨
    ∃ (l : List (BitVec 8)) (L : Loc) (cap : Nat), l.length ≤ cap ∧ cap < 9223372036854775808 ∧ SatE (fun _ => none) ⟨.row .cell, .u8s l, false⟩ L W ∧
      (∀ (ρ : Env) (i : Nat), ρ i = some L → Rep ρ (.slice i [] 0 l.length (some cap)) v) ∧
      (∀ (W' : World) (sp : Nat → Bool), (∀ b, b < W.heap.size → W'.heap[b]? = W.heap[b]?) → (∀ p ∈ ps, sp p.block = true) → DataW.Trod enc P W' 0 sp true t v d ps) ∧ ∃ es sp, d = .slice es sp ∧ es.length = l.length := by
  obtain ⟨fuel, hf⟩ := hd
  have hval' : Cell.okWide P W r b0 t v := by
    simp only [Value.okWide, ht] at hval; exact hval
  rcases open_ints ht he hc hf with ⟨hcs, hx⟩ | ⟨a, len, cap, zs, hcs, _, hl, hm, hz, hx, hcell, hwz⟩
  · left
    have hv : v = .slice none 0 0 := by
      cases v <;> simp_all [Value.cells]
      simp only [Cell.okWide, ht, Cell.ok] at hval'
    subst hv
    cases hx
    refine ⟨rfl, rfl, fun W' sp => ⟨1, ?_⟩⟩
    simp [DataW.trod, ht, Value.cells]
  right
  have hv : v = .slice (some a) len cap := by
    cases v <;> simp_all [Value.cells]
    simp only [Cell.okWide, ht, Cell.ok] at hval'
  subst hv
  cases hx
  simp only [if_true] at hz
  simp only [Cell.okWide, ht, Cell.ok] at hval'
  obtain ⟨_, _, _, hspot, row, cells, hsh, _⟩ := hval'
  obtain ⟨C, T, fr, hC⟩ := shape_cells hsh
  obtain ⟨ab, ao, spot⟩ := a
  have hspot : spot = none := hspot
  subst hspot
  have hC : W.heap[ab]? = some (.cells C T fr) := hC
  have hcell' : ∀ i, i < cap → C[ao + i]? = some (.int .u8 (zs.getD i 0)) := by
    intro i hi
    have := hcell i (by omega)
    rw [Addr.add_lit] at this
    simpa [World.cell?, hC] using this
  have hbd : 0 < cap → ao + cap ≤ C.size := by
    intro h0
    have := hcell' (cap - 1) (by omega)
    rcases Nat.lt_or_ge (ao + (cap - 1)) C.size with h | h
    · omega
    · rw [Array.getElem?_eq_none h] at this; cases this
  let l : List (BitVec 8) := (zs.take len).map fun n => BitVec.ofNat 8 n.toNat
  have hll : l.length = len := by simp [l]; omega
  let base : Nat := if cap = 0 then 0 else ao
  have hbase : base + len ≤ C.size := by
    by_cases h : cap = 0
    · simp only [base, if_pos h]; omega
    · simp only [base, if_neg h]
      have := hbd (by omega)
      omega
  have hreads : ∀ i, i < len → C[base + i]? = some (.int .u8 (zs.getD i 0)) := by
    intro i hi
    have h : ¬ cap = 0 := by omega
    simp only [base, if_neg h]
    exact hcell' i (by omega)
  refine ⟨l, ⟨ab, base, C.size, .row .cell⟩, cap, by omega, ?_, ⟨rfl, trivial, trivial, C, T, fr, C.toList.take base, (C.toList.drop base).take len, C.toList.drop (base + len), hC, list_win C.toList base len, ?_, rfl, ?_, fun h => by cases h⟩, fun ρ i hρ => ?_, fun W' sp hW hsp => ?_, _, _, rfl, by simp only [lits, List.length_map, List.length_take, hll]; omega⟩
  · unfold maxLen at hm; omega
  · rw [List.length_take, Array.length_toList]
    show min base C.size = base
    omega
  · show All2 _ (l.map D.u8) _
    have key : ∀ (n : Nat) (zs : List Int) (cs : List Value), n ≤ zs.length → (∀ z ∈ zs, (Lit.int .u8 z).wf = true) → (∀ i, i < n → cs[i]? = some (.int .u8 (zs.getD i 0))) → cs.length = n →
        All2 (RepS (fun _ => none)) (((zs.take n).map fun n => BitVec.ofNat 8 n.toNat).map D.u8) cs := by
      intro n
      induction n with
      | zero =>
        intro zs cs _ _ _ hlen
        have : cs = [] := List.eq_nil_of_length_eq_zero hlen
        subst this
        exact trivial
      | succ n ih =>
        intro zs cs hn hw hcs hlen
        match zs, cs, hn, hlen with
        | z :: zs, c :: cs, hn, hlen =>
          have h0 := hcs 0 (by omega)
          simp at h0
          subst h0
          refine ⟨rep_u8 (ρ := fun _ => none) (hw z (by simp)), ih zs cs (by simpa using hn) (fun x hx => hw x (List.mem_cons_of_mem _ hx)) (fun i hi => ?_) (by simpa using hlen)⟩
          simpa using hcs (i + 1) (by omega)
    refine key len zs _ (by omega) hwz (fun i hi => ?_) ?_
    · rw [List.getElem?_take, if_pos hi, List.getElem?_drop, Array.getElem?_toList]
      exact hreads i hi
    · rw [List.length_take, List.length_drop, Array.length_toList]; omega
  · refine ⟨_, hρ, .row .cell, .cell, ⟨ab, ao, none⟩, cap, rfl, rfl, by rw [hll], by omega, by unfold maxLen at hm; omega, fun k hk => by cases hk; rfl, fun h0 => ?_⟩
    have h : ¬ cap = 0 := by omega
    have := hbd h0
    simp only [base, if_neg h, offAt, Ty.size]
    exact ⟨by simp, by omega⟩
  · refine ⟨2, ?_⟩
    have hcells : (Value.slice (some ⟨ab, ao, none⟩) len cap).cells.toList = [.slice (some ⟨ab, ao, none⟩) len cap] := by simp [Value.cells]
    rw [hcells]
    have hab : ab < W.heap.size := by
      rcases Nat.lt_or_ge ab W.heap.size with h | h
      · exact h
      · rw [Array.getElem?_eq_none h] at hC; cases hC
    refine shut_ints' 0 ht he hc (Nat.zero_le _) hl hm ?_ (fun i hi => ?_) hwz
    · rw [hz]
      by_cases h : cap = 0
      · split <;> omega
      · have : sp ab = true := hsp (.cell ab ao) (MemPlace.mem_row.2 ⟨0, by omega, rfl⟩)
        rw [if_pos this]
    · have := hcell' i (by omega)
      simp only [World.cell?, hW ab hab, hC]
      simpa using this
end

section
variable {H : Type} {enc : TypeId × Value → H} {P : Program}

/-- an array of bytes among cells: its bytes; it reads so anywhere -/
theorem trod_u8s {t e : TypeId} {n : Nat} (ht : P.underlying t = some (.array n e)) (he : P.underlying e = some (.int .u8)) (hc : P.cellsOf e = 1) (hs : P.cellsOf t = n) {base : Nat} {W : World} {cs : List Value} {y : DataW H × List MemPlace}
    {sp : Nat → Bool} {held : Bool} {fuel : Nat} (hf : DataW.trod enc P W base sp held fuel t cs = some y) :
    y.2 = [] ∧ (∃ l : List (BitVec 8), l.length = n ∧ ∀ ρ, All2 (RepS ρ) (l.map D.u8) cs) ∧ ∀ (W' : World) (base' : Nat) (sp' : Nat → Bool) (held' : Bool), DataW.trod enc P W' base' sp' held' fuel t cs = some y := by
  obtain ⟨ys, m, rfl, hx, hl, hys, hi⟩ := DataW.trod_array ht hf
  have hget : ∀ i, i < n → ∃ a, cs[i]? = some (.int .u8 a) ∧ (Lit.int .u8 a).wf = true := by
    intro i hin
    have h := hi i hin
    rw [List.getElem?_eq_getElem (by omega)] at h
    obtain ⟨a, h1, _, h2⟩ := DataW.trod_int he h
    rw [hc, Nat.mul_one] at h1
    refine ⟨a, ?_, h2⟩
    have := congrArg (·[0]?) h1
    simpa [List.getElem?_take, List.getElem?_drop] using this
  have hlen : cs.length = n := by rw [hl, hs]
  have key : ∀ (cs : List Value), (∀ i, i < cs.length → ∃ a, cs[i]? = some (.int .u8 a) ∧ (Lit.int .u8 a).wf = true) → ∃ l : List (BitVec 8), l.length = cs.length ∧ ∀ ρ, All2 (RepS ρ) (l.map D.u8) cs := by
    intro cs
    induction cs with
    | nil => intro _; exact ⟨[], rfl, fun _ => trivial⟩
    | cons c cs ih =>
      intro h
      obtain ⟨a, h1, h2⟩ := h 0 (by simp)
      simp at h1; subst h1
      obtain ⟨l, h3, h4⟩ := ih (fun i hi => by simpa using h (i + 1) (by simpa using hi))
      exact ⟨BitVec.ofNat 8 a.toNat :: l, by simp [h3], fun ρ => ⟨rep_u8 (ρ := ρ) h2, h4 ρ⟩⟩
  obtain ⟨l, h1, h2⟩ := key cs (by rw [hlen]; exact hget)
  have hstay : ∀ (W' : World) (base' : Nat) (sp' : Nat → Bool) (held' : Bool), DataW.trod enc P W' base' sp' held' (m + 1) t cs = some y ∧ y.2 = [] := by
    intro W' base' sp' held'
    unfold DataW.trod at hf ⊢
    rw [ht] at hf ⊢
    simp only [hl, if_true, Option.map_eq_some_iff] at hf ⊢
    obtain ⟨zs, hz, hzx⟩ := hf
    obtain ⟨h3, h4⟩ := mapM_none (g := fun i => DataW.trod enc P W' base' sp' held' m e ((cs.drop (i * P.cellsOf e)).take (P.cellsOf e))) hz (fun i y _ hy => by
      obtain ⟨a, e1, e2, e3⟩ := DataW.trod_int he hy
      rw [e2]
      refine ⟨rfl, ?_⟩
      rw [e1]
      cases m with
      | zero => simp [DataW.trod] at hy
      | succ m => simp [DataW.trod, he, e3])
    refine ⟨⟨zs, h3, hzx⟩, ?_⟩
    rw [← hzx]; exact h4
  exact ⟨(hstay W 0 sp held).2, ⟨l, by rw [h1, hlen], h2⟩, fun W' base' sp' held' => (hstay W' base' sp' held').1⟩

/-- two arrays of bytes by value -/
theorem open_pair {t t' e : TypeId} {n : Nat} (ht : P.underlying t = some (.array 2 t')) (ht' : P.underlying t' = some (.array n e)) (he : P.underlying e = some (.int .u8)) (hc : P.cellsOf e = 1) (hs' : P.cellsOf t' = n) (hs : P.cellsOf t = n + n) {r : Reach} {b0 base : Nat} {W : World} {v : Value} {d : DataW H} {ps : List MemPlace}
    {sp : Nat → Bool} {held : Bool} (hval : Value.okWide P W r b0 t v) (hd : DataW.Trod enc P W base sp held t v d ps) :
    ∃ a b : List (BitVec 8), a.length = n ∧ b.length = n ∧ ps = [] ∧ (∀ ρ, Rep ρ (.node [.u8s a, .u8s b]) v) ∧ ∀ (W' : World) (base' : Nat) (sp' : Nat → Bool) (held' : Bool), DataW.Trod enc P W' base' sp' held' t v d [] := by
  simp only [Value.okWide, ht] at hval
  obtain ⟨xs, rfl, hn, _⟩ := hval
  obtain ⟨fuel, hf⟩ := hd
  have hcells : (Value.agg xs).cells.toList = xs.toList := by simp [Value.cells]
  rw [hcells] at hf
  obtain ⟨ys, m, rfl, hx, hl, hys, hi⟩ := DataW.trod_array ht hf
  obtain ⟨y0, y1, rfl⟩ : ∃ y0 y1, ys = [y0, y1] := by
    match ys, hys with
    | [y0, y1], _ => exact ⟨y0, y1, rfl⟩
  have i0 := hi 0 (by omega)
  have i1 := hi 1 (by omega)
  rw [hs'] at i0 i1
  simp only [Nat.zero_mul, List.drop_zero, Nat.one_mul] at i0 i1
  obtain ⟨p0, ⟨a, ha, hra⟩, st0⟩ := trod_u8s ht' he hc hs' (show DataW.trod enc P W base sp held m t' (xs.toList.take n) = some y0 from i0)
  obtain ⟨p1, ⟨b, hb, hrb⟩, st1⟩ := trod_u8s ht' he hc hs' (show DataW.trod enc P W base sp held m t' ((xs.toList.drop n).take n) = some y1 from i1)
  have hsz : xs.toList.length = n + n := by rw [hl, hs]
  have hsplit : xs.toList = xs.toList.take n ++ (xs.toList.drop n).take n := by
    rw [List.take_of_length_le (l := xs.toList.drop n) (by rw [List.length_drop]; omega), List.take_append_drop]
  have hstay : ∀ (W' : World) (base' : Nat) (sp' : Nat → Bool) (held' : Bool), DataW.trod enc P W' base' sp' held' (m + 1) t xs.toList = some (d, ps) ∧ ps = [] := by
    intro W' base' sp' held'
    unfold DataW.trod at hf ⊢
    rw [ht] at hf ⊢
    simp only [hl, if_true, Option.map_eq_some_iff] at hf ⊢
    obtain ⟨zs, hz, hzx⟩ := hf
    obtain ⟨h3, h4⟩ := mapM_none (g := fun i => DataW.trod enc P W' base' sp' held' m t' ((xs.toList.drop (i * P.cellsOf t')).take (P.cellsOf t'))) hz (fun i y _ hy => by
      obtain ⟨e1, _, e2⟩ := trod_u8s ht' he hc hs' hy
      exact ⟨e1, e2 W' base' sp' held'⟩)
    refine ⟨⟨zs, h3, hzx⟩, ?_⟩
    have := congrArg Prod.snd hzx
    exact this.symm.trans h4
  refine ⟨a, b, ha, hb, (hstay W 0 sp held).2, fun ρ => ⟨xs.toList, by simp, ?_⟩, fun W' base' sp' held' => ?_⟩
  · show All2 (RepS ρ) (a.map D.u8 ++ (b.map D.u8 ++ [])) _
    rw [hsplit, List.append_nil]
    exact (hra ρ).append (hrb ρ)
  · obtain ⟨h5, h6⟩ := hstay W' base' sp' held'
    refine ⟨m + 1, ?_⟩
    rw [hcells, h5, h6]

theorem rep_u64 {ρ : Env} {n : Int} (h : (Lit.int .u64 n).wf = true) : Rep ρ (.u64 (BitVec.ofNat 64 n.toNat)) (.int .u64 n) := by
  simp only [Lit.wf, Bool.and_eq_true, decide_eq_true_eq] at h
  have h1 : (0 : Int) ≤ n := h.1
  have h2 : n < 18446744073709551616 := by
    have := h.2
    have e : IntKind.u64.max = 18446744073709551615 := by decide
    omega
  show Value.int _ _ = .int _ _
  congr 1
  simp; omega

/-- the call of a law that reads a slice of bytes -/
theorem calls_bool_s {f : Nat} {args : List D} {T : Ty} {d : D} (h : AC P f args 1 [(0, some ⟨T, d, false⟩)] ⟨.bool true, [], []⟩) {W : World} {vals : List Value} {L : Loc} (hv : All2 (Rep (fun i => if i = 0 then some L else none)) args vals)
    (hs : SatE (fun _ => none) ⟨T, d, false⟩ L W) :
    Calls P f vals.toArray W fun e W' => e = .returned (.bool true) ∧ W'.os = W.os ∧ W'.output = W.output ∧ W.heap.size ≤ W'.heap.size ∧ ∀ b, b < W.heap.size → W'.heap[b]? = W.heap[b]? := by
  let ρ0 : Env := fun i => if i = 0 then some L else none
  have hle : Env.le (fun _ => none) ρ0 := fun i L h => by cases h
  have hget : ∀ i e, get [(0, some ⟨T, d, false⟩)] i = some e → i = 0 ∧ e = ⟨T, d, false⟩ := fun i e h => by
    rw [get_cons] at h
    split at h
    · rename_i e1; cases h; exact ⟨e1.symm, rfl⟩
    · cases h
  refine (h.2 ρ0 W vals hv ⟨fun g' L' h' => ?_, fun i e hi => ?_, fun i j ei ej Li Lj hi hj hne hr => ?_, fun i e L' hi hr => ?_, fun _ _ _ => rfl, Nat.le_refl _, rfl, rfl, rfl⟩ (fun i hi => ?_)).mono fun e W' ⟨v, ρ', he, _, _, hr, hI⟩ => ?_
  · have h' : (if gid g' = 0 then some L else none) = some L' := h'
    rw [if_neg (by unfold gid; omega)] at h'
    cases h'
  · obtain ⟨rfl, rfl⟩ := hget i e hi
    exact ⟨L, if_pos rfl, hs.mono hle⟩
  · obtain ⟨_, rfl⟩ := hget i ei hi
    cases hr
  · obtain ⟨_, rfl⟩ := hget i e hi
    cases hr
  · have hi : (if i = 0 then some L else none) ≠ none := hi
    split at hi
    · rename_i e1
      left; omega
    · exact absurd rfl hi
  · have hr : v = .bool true := hr
    subst hr
    refine ⟨he, hI.os, hI.out, hI.size, fun b hb => hI.ext b hb (fun ⟨i, e, L', h1, h2, _⟩ => ?_)⟩
    obtain ⟨_, rfl⟩ := hget i e h1
    cases h2
end

section
variable {H : Type} {enc : TypeId × Value → H} {P : Program}
theorem post_places {f : Func} {s : ChangeSpec} {apart fresh handsOn : Bool} {W W' : World} {args : Array Value} {v : Value} {ds gs : List (DataW H)} {before : List MemPlace}
    (hW : DataW.Whole enc P f.params.toList s.vars apart W args.toList ds gs before)
    (hres : ∀ (b : Nat) (sp : Nat → Bool) (hd : Bool), DataW.TrodAll enc P W' b sp hd f.resultTypes.toList (v.resultList f.resultTypes.size) (s.fn H (ds ++ gs)).results [])
    (hargs : ∀ sp : Nat → Bool, (∀ p ∈ before, sp p.block = true) → DataW.TrodAll enc P W' 0 sp true f.params.toList args.toList (s.fn H (ds ++ gs)).args before)
    (hvars : ∀ sp : Nat → Bool, DataW.TrodVars enc P W' sp s.vars (s.fn H (ds ++ gs)).vars [])
    (hk : W.keptBut W' (fun _ => False)) : s.post enc P f apart fresh handsOn false W args v W' :=
  ⟨ds, gs, before, [], before, [], hW, hres _ _ _, hargs _ (fun p hp => by simpa using hW.lt p hp), hvars _, World.keptBut_mono (fun _ h => h.elim) hk, (fun h => nomatch h)⟩
end
end Go.Proofs.YtljkjdhkofbgmaaDoor.Av

namespace Go.Proofs.YtljkjdhkofbgmaaDoor.Av
open Go Go.ChangeShapes Go.WideShapes
set_option linter.all false
set_option maxRecDepth 3000

/-! a law whose code reads some of the package's variables -/
theorem calls_bool_m {P : Program} {f : Nat} {args : List D} {m0 : Mem} (h : AC P f args 0 m0 ⟨.bool true, [], []⟩) {W : World} {vals : List Value} (hv : All2 (Rep (fun _ => none)) args vals)
    (hm : ∀ i e, get m0 i = some e → e.rw = false ∧ ∃ g, i = gid g ∧ ∃ L : Loc, (L.blk = g ∧ L.base = 0) ∧ SatE (fun _ => none) e L W) :
    Calls P f vals.toArray W fun e W' => e = .returned (.bool true) ∧ W'.os = W.os ∧ W'.output = W.output ∧ W.heap.size ≤ W'.heap.size ∧ ∀ b, b < W.heap.size → W'.heap[b]? = W.heap[b]? := by
  let ρ0 : Env := fun i => @dite _ (∃ e, get m0 i = some e) (Classical.propDecidable _) (fun hi => some (hm i hi.choose hi.choose_spec).2.choose_spec.2.choose) (fun _ => none)
  have hle : Env.le (fun _ => none) ρ0 := fun i L h => by cases h
  have hρ : ∀ i e, get m0 i = some e → ∃ g L, i = gid g ∧ ρ0 i = some L ∧ (L.blk = g ∧ L.base = 0) ∧ SatE (fun _ => none) e L W := fun i e hi => by
    have hx : ∃ e, get m0 i = some e := ⟨e, hi⟩
    have he : hx.choose = e := Option.some.inj (hx.choose_spec.symm.trans hi)
    have hs := (hm i hx.choose hx.choose_spec).2.choose_spec.2.choose_spec
    have hg := (hm i hx.choose hx.choose_spec).2.choose_spec.1
    refine ⟨_, _, hg, dif_pos hx, hs.1, ?_⟩
    have h2 := hs.2
    generalize (hm i hx.choose hx.choose_spec).2.choose_spec.2.choose = L at h2
    rw [he] at h2
    exact h2
  have hno : ∀ i L, ρ0 i = some L → ∃ e, get m0 i = some e := fun i L hi => by
    by_cases hx : ∃ e, get m0 i = some e
    · exact hx
    · have : ρ0 i = none := dif_neg hx
      rw [this] at hi; cases hi
  have hgi : ∀ {a b : Nat}, gid a = gid b → a = b := fun h => by unfold gid at h; omega
  refine (h.2 ρ0 W vals (hv.mono fun a b hab => Rep.mono hle hab)
    ⟨fun g L h' => ?_, fun i e hi => ?_, fun i j ei ej Li Lj hi hj hne hr => ?_, fun i e L' hi hr => ?_, fun _ _ _ => rfl, Nat.le_refl _, rfl, rfl, rfl⟩ (fun i hi => ?_)).mono fun e W' ⟨v, ρ', he, _, _, hr, hI⟩ => ?_
  · obtain ⟨e, he⟩ := hno _ _ h'
    obtain ⟨g', L', h1, h2, h3, _⟩ := hρ _ e he
    rw [h'] at h2; cases h2
    rw [hgi h1]; exact h3
  · obtain ⟨g', L', h1, h2, h3, h4⟩ := hρ i e hi
    exact ⟨L', h2, h4.mono hle⟩
  · rw [(hm i ei hi).1] at hr; cases hr
  · rw [(hm i e hi).1] at hr; cases hr
  · cases hL : ρ0 i with
    | none => exact absurd hL hi
    | some L =>
      obtain ⟨e, he⟩ := hno _ _ hL
      obtain ⟨g', L', h1, _⟩ := hρ _ e he
      right; rw [h1]; unfold gid; omega
  · have hr : v = .bool true := hr
    subst hr
    refine ⟨he, hI.os, hI.out, hI.size, fun b hb => hI.ext b hb (fun ⟨i, e, L', h1, h2, _⟩ => ?_)⟩
    rw [(hm i e h1).1] at h2; cases h2

/-- a variable that is an array of words, as its reading says -/
theorem sat_u32s {P : Program} {W : World} {name : String} {g t e n : Nat} (hg : P.globalNamed name = some g) (hty : (P.globals[g]?).map (·.type) = some t) (ht : P.underlying t = some (.array n e)) (he : P.underlying e = some (.int .u32))
    (hc : P.cellsOf e = 1) (hs : P.cellsOf t = n) {l : List (BitVec 32)} (hl : l.length = n) (h : Lib.VarReads P W name (.agg (l.map fun b => .lit (.int .u32 b.toNat)))) :
    SatE (fun _ => none) ⟨.arr n .cell, .u32s l, false⟩ ⟨g, 0, n, .arr n .cell⟩ W := by
  obtain ⟨g', t', cs, fuel, p, q1, q2, q3, q4⟩ := h
  obtain rfl := Option.some.inj (hg.symm.trans q1)
  obtain rfl := Option.some.inj (hty.symm.trans q2)
  have hcs : cs.toList = (l.map fun b => (b.toNat : Int)).map fun z => Value.int .u32 z := by
    have q5 : DataW.trod (fun _ => ()) P W 0 (fun _ => true) false fuel t cs.toList = some (Lib.tabData .u32 (l.map fun b => (b.toNat : Int)), p) := by
      rw [q4]; unfold Lib.tabData; rw [List.map_map]; rfl
    exact Lib.cells_of_tab ht he hc hs q5
  simp only [World.var?, hg, Option.bind_some] at q3
  split at q3 <;> try contradiction
  rename_i C T fr hC
  cases q3
  have hlen : cs.size = n := by
    have := congrArg List.length hcs
    simpa [hl] using this
  refine ⟨rfl, trivial, hl, cs, T, fr, [], cs.toList, [], hC, by simp, rfl, hlen, ?_, fun h => by cases h⟩
  rw [hcs, List.map_map]
  show All2 _ (l.map D.u32) _
  have : ∀ l : List (BitVec 32), All2 (RepS (fun _ => none)) (l.map D.u32) (l.map ((fun z => Value.int .u32 z) ∘ fun b => (b.toNat : Int))) := by
    intro l
    induction l with
    | nil => trivial
    | cons a r ih => exact ⟨rfl, ih⟩
  exact this l

section
variable {H : Type} {enc : TypeId × Value → H} {P : Program}
/-- three arrays of bytes -/
theorem open_triple {t t' e : TypeId} {n : Nat} (ht : P.underlying t = some (.array 3 t')) (ht' : P.underlying t' = some (.array n e)) (he : P.underlying e = some (.int .u8)) (hc : P.cellsOf e = 1) (hs' : P.cellsOf t' = n) (hs : P.cellsOf t = n + n + n) {r : Reach} {b0 base : Nat} {W : World} {v : Value} {d : DataW H} {ps : List MemPlace}
    {sp : Nat → Bool} {held : Bool} (hval : Value.okWide P W r b0 t v) (hd : DataW.Trod enc P W base sp held t v d ps) :
    ∃ a b c : List (BitVec 8), a.length = n ∧ b.length = n ∧ c.length = n ∧ ps = [] ∧ (∀ ρ, Rep ρ (.node [.u8s a, .u8s b, .u8s c]) v) ∧ ∀ (W' : World) (base' : Nat) (sp' : Nat → Bool) (held' : Bool), DataW.Trod enc P W' base' sp' held' t v d [] := by
  simp only [Value.okWide, ht] at hval
  obtain ⟨xs, rfl, hn, _⟩ := hval
  obtain ⟨fuel, hf⟩ := hd
  have hcells : (Value.agg xs).cells.toList = xs.toList := by simp [Value.cells]
  rw [hcells] at hf
  obtain ⟨ys, m, rfl, hx, hl, hys, hi⟩ := DataW.trod_array ht hf
  obtain ⟨y0, y1, y2, rfl⟩ : ∃ y0 y1 y2, ys = [y0, y1, y2] := by
    match ys, hys with
    | [y0, y1, y2], _ => exact ⟨y0, y1, y2, rfl⟩
  have i0 := hi 0 (by omega)
  have i1 := hi 1 (by omega)
  have i2 := hi 2 (by omega)
  rw [hs'] at i0 i1 i2
  simp only [Nat.zero_mul, List.drop_zero, Nat.one_mul] at i0 i1 i2
  obtain ⟨p0, ⟨a, ha, hra⟩, st0⟩ := trod_u8s ht' he hc hs' (show DataW.trod enc P W base sp held m t' (xs.toList.take n) = some y0 from i0)
  obtain ⟨p1, ⟨b, hb, hrb⟩, st1⟩ := trod_u8s ht' he hc hs' (show DataW.trod enc P W base sp held m t' ((xs.toList.drop n).take n) = some y1 from i1)
  obtain ⟨p2, ⟨c, hcl, hrc⟩, st2⟩ := trod_u8s ht' he hc hs' (show DataW.trod enc P W base sp held m t' ((xs.toList.drop (2 * n)).take n) = some y2 from i2)
  have hsz : xs.toList.length = n + n + n := by rw [hl, hs]
  have hsplit : xs.toList = xs.toList.take n ++ ((xs.toList.drop n).take n ++ (xs.toList.drop (2 * n)).take n) := by
    rw [List.take_of_length_le (l := xs.toList.drop (2 * n)) (by rw [List.length_drop]; omega), show 2 * n = n + n by omega, ← List.drop_drop, List.take_append_drop, List.take_append_drop]
  have hstay : ∀ (W' : World) (base' : Nat) (sp' : Nat → Bool) (held' : Bool), DataW.trod enc P W' base' sp' held' (m + 1) t xs.toList = some (d, ps) ∧ ps = [] := by
    intro W' base' sp' held'
    unfold DataW.trod at hf ⊢
    rw [ht] at hf ⊢
    simp only [hl, if_true, Option.map_eq_some_iff] at hf ⊢
    obtain ⟨zs, hz, hzx⟩ := hf
    obtain ⟨h3, h4⟩ := mapM_none (g := fun i => DataW.trod enc P W' base' sp' held' m t' ((xs.toList.drop (i * P.cellsOf t')).take (P.cellsOf t'))) hz (fun i y _ hy => by
      obtain ⟨e1, _, e2⟩ := trod_u8s ht' he hc hs' hy
      exact ⟨e1, e2 W' base' sp' held'⟩)
    refine ⟨⟨zs, h3, hzx⟩, ?_⟩
    have := congrArg Prod.snd hzx
    exact this.symm.trans h4
  refine ⟨a, b, c, ha, hb, hcl, (hstay W 0 sp held).2, fun ρ => ⟨xs.toList, by simp, ?_⟩, fun W' base' sp' held' => ?_⟩
  · show All2 (RepS ρ) (a.map D.u8 ++ (b.map D.u8 ++ (c.map D.u8 ++ []))) _
    rw [hsplit, List.append_nil]
    exact (hra ρ).append ((hrb ρ).append (hrc ρ))
  · obtain ⟨h5, h6⟩ := hstay W' base' sp' held'
    refine ⟨m + 1, ?_⟩
    rw [hcells, h5, h6]
end
end Go.Proofs.YtljkjdhkofbgmaaDoor.Av
