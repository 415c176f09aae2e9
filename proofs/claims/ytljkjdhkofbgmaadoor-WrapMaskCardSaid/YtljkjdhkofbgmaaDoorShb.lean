import Derived.Test.YtljkjdhkofbgmaaDoorSha
namespace Go.Proofs.YtljkjdhkofbgmaaDoor.Av
open Go
set_option linter.all false
set_option maxRecDepth 3000

def nbI (n : BitVec 64) (k : Nat) : Nat → List (BitVec 8) × BitVec 64
  | 0 => (List.replicate k 0, n)
  | i + 1 => ((nbI n k i).1.set ((k : Int) - 1 - (i : Int)).toNat ((nbI n k i).2.setWidth 8), (nbI n k i).2 >>> 8)
theorem nbI_length (n : BitVec 64) (k : Nat) : ∀ i, (nbI n k i).1.length = k
  | 0 => List.length_replicate
  | i + 1 => by rw [nbI, List.length_set, nbI_length n k i]
def nbF (n : BitVec 64) (k : Nat) : List (BitVec 8) := (nbI n k k).1
theorem nbF_length (n : BitVec 64) (k : Nat) : (nbF n k).length = k := nbI_length n k k

theorem put_ac (n : BitVec 64) (k : Nat) (hk : k ≤ 1000) : AC Tryd.prog 87 [.u64 n, .i64 k] 0 [] ⟨.slice 0 [] 0 k none, [], [(.row .cell, .u8s (nbF n k))]⟩ := by
  refine acA tab mix Tryd.func87 {} ?_
  repeat first | refine EffG.mk (obA ?_) | refine obA ?_ | refine chkA ?_
  refine loopG Nat (fun i => [(0, .u64 (nbI n k i).2), (1, .i64 k), (5, .slice 0 [] 0 k none), (10, .i64 k), (11, .i64 i)]) (fun i => [(0, some ⟨.row .cell, .u8s (nbI n k i).1, true⟩)]) 1 (fun i => i ≤ k) (fun i => k - i) 0 [0] (Nat.zero_le _) viewA ?_
  intro i hi
  have hl := nbI_length n k i
  repeat first | refine EffG.mk (obA ?_) | refine obA ?_ | refine chkA ?_
  refine Br.split (fun h => ?_) (fun h => ?_)
  · have hi : i < k := by have := of_decide_eq_true h; omega
    repeat first | refine EffG.mk (obA ?_) | refine obA ?_ | refine chkA ?_
    refine nextA (i + 1) [0] viewA
  · obtain rfl : i = k := by have := of_decide_eq_false h; omega
    repeat first | refine EffG.mk (obA ?_) | refine obA ?_ | refine chkA ?_
    refine retA [0]
theorem put32_ac (n : BitVec 32) : AC Tryd.prog 79 [.u32 n] 0 [] ⟨.slice 0 [] 0 4 none, [], [(.row .cell, .u8s (nbF (n.setWidth 64) 4))]⟩ := by
  refine acA tab mix Tryd.func79 {} ?_
  repeat first | refine EffG.mk (obA ?_) | refine obA ?_ | refine chkA ?_
  refine callA (put_ac (n.setWidth 64) 4 (by decide)) [] ?_
  repeat first | refine EffG.mk (obA ?_) | refine obA ?_ | refine chkA ?_
  refine retA [0]
theorem put64_ac (n : BitVec 64) : AC Tryd.prog 78 [.u64 n] 0 [] ⟨.slice 0 [] 0 8 none, [], [(.row .cell, .u8s (nbF n 8))]⟩ := by
  refine acA tab mix Tryd.func78 {} ?_
  repeat first | refine EffG.mk (obA ?_) | refine obA ?_ | refine chkA ?_
  refine callA (put_ac n 8 (by decide)) [] ?_
  repeat first | refine EffG.mk (obA ?_) | refine obA ?_ | refine chkA ?_
  refine retA [0]

theorem clone_ac (bs : List (BitVec 8)) (o k : Nat) (cap : Option Nat) (h : o + k ≤ bs.length) (hk : k ≤ 70368744177664) :
    AC Tryd.prog 77 [.slice 0 [] o k cap] 1 [(0, some ⟨.row .cell, .u8s bs, false⟩)] ⟨.slice 1 [] 0 k none, [], [(.row .cell, .u8s ((bs.drop o).take k))]⟩ := by
  refine acA tab mix Tryd.func77 {} ?_
  repeat first | refine EffG.mk (obA ?_) | refine obA ?_ | refine chkA ?_ | refine brY ?_ | refine brN ?_
  refine ⟨0, ?_⟩
  repeat first | refine EffG.mk (obA ?_) | refine obA ?_ | refine chkA ?_
  refine retA [0, 2]

theorem grow_ac (k : Int) (h0 : 0 < k) (hk : k ≤ 140737488355328) : AC Tryd.prog 82 [.nilslice, .i64 k] 0 [] ⟨.slice 0 [] 0 0 none, [], [(.row .cell, .u8s (List.replicate (k - (0 - 0)).toNat 0))]⟩ := by
  refine acA tab mix Tryd.func82 {} ?_
  repeat first | refine EffG.mk (obA ?_) | refine obA ?_ | refine chkA ?_ | refine brY ?_ | refine brN ?_
  refine ⟨0, ?_⟩
  repeat first | refine EffG.mk (obA ?_) | refine obA ?_ | refine chkA ?_
  refine retA [0]

theorem drop0 {α : Type} (l : List α) : l.drop 0 = l := rfl
/-- nothing, and some bytes -/
theorem concat_nil_ac (bs : List (BitVec 8)) (o k : Nat) (cap : Option Nat) (h : o + k ≤ bs.length) (h0 : 0 < k) (hk : k ≤ 70368744177664) :
    AC Tryd.prog 75 [.slice 0 [] 0 2 (some 2)] 2 [(0, some ⟨.row .cell, .node [.nilslice, .slice 1 [] o k cap], true⟩), (1, some ⟨.row .cell, .u8s bs, false⟩)] ⟨.slice 2 [] 0 k none, [], [(.row .cell, .u8s ((bs.drop o).take k))]⟩ := by
  refine acA tab mix Tryd.func75 ⟨[], [3, 11]⟩ ?_
  repeat first | refine EffG.mk (obA ?_) | refine obA ?_ | refine chkA ?_
  refine unrG 3 ?_
  repeat first | refine EffG.mk (obA ?_) | refine obA ?_ | refine chkA ?_ | refine brY ?_ | refine brN ?_
  refine callA (grow_ac (0 + 0 + (k : Int)) (by omega) (by omega)) [] ?_
  repeat first | refine EffG.mk (obA ?_) | refine obA ?_ | refine chkA ?_
  refine unrG 3 ?_
  repeat first | refine EffG.mk (obA ?_) | refine obA ?_ | refine chkA ?_ | refine brY ?_ | refine brN ?_
  refine ⟨0, ?_⟩
  repeat first | refine EffG.mk (obA ?_) | refine obA ?_ | refine chkA ?_ | refine brY ?_ | refine brN ?_
  refine ⟨0, ?_⟩
  repeat first | refine EffG.mk (obA ?_) | refine obA ?_ | refine chkA ?_ | refine brY ?_ | refine brN ?_
  refine retA [0, 1, 4]

/-- some bytes, perhaps none, and some more -/
theorem concat_ac (ss bs : List (BitVec 8)) (r a o k : Nat) (rc cap : Option Nat) (ha : r + a ≤ ss.length) (h : o + k ≤ bs.length) (h0 : 0 < k) (hk : a + k ≤ 70368744177664) :
    AC Tryd.prog 75 [.slice 0 [] 0 2 (some 2)] 3 [(0, some ⟨.row .cell, .node [.slice 2 [] r a rc, .slice 1 [] o k cap], true⟩), (1, some ⟨.row .cell, .u8s bs, false⟩), (2, some ⟨.row .cell, .u8s ss, false⟩)]
      ⟨.slice 3 [] 0 (a + k) none, [], [(.row .cell, .u8s ((ss.drop r).take a ++ (bs.drop o).take k))]⟩ := by
  have hl : ((ss.drop r).take a).length = a := by rw [List.length_take, List.length_drop]; omega
  have ht : (List.take a ((ss.drop r).take a)) = (ss.drop r).take a := List.take_of_length_le (by omega)
  refine acA tab mix Tryd.func75 ⟨[], [3, 11]⟩ ?_
  repeat first | refine EffG.mk (obA ?_) | refine obA ?_ | refine chkA ?_
  refine unrG 3 ?_
  repeat first | refine EffG.mk (obA ?_) | refine obA ?_ | refine chkA ?_ | refine brY ?_ | refine brN ?_
  refine callA (grow_ac (0 + a + (k : Int)) (by omega) (by omega)) [] ?_
  repeat first | refine EffG.mk (obA ?_) | refine obA ?_ | refine chkA ?_
  refine unrG 3 ?_
  repeat first | refine EffG.mk (obA ?_) | refine obA ?_ | refine chkA ?_ | refine brY ?_ | refine brN ?_
  refine ⟨0, ?_⟩
  repeat first | refine EffG.mk (obA ?_) | refine obA ?_ | refine chkA ?_ | refine brY ?_ | refine brN ?_
  refine ⟨0, ?_⟩
  repeat first | refine EffG.mk (obA ?_) | refine obA ?_ | refine chkA ?_ | refine brY ?_ | refine brN ?_
  refine retA [0, 1, 2, 5] (h3 := ?_)
  refine ⟨⟨_, rfl, rfl, congrArg D.u8s ?_, id⟩, ⟨_, rfl, rfl, rfl, id⟩, ⟨_, rfl, rfl, rfl, id⟩, ⟨_, rfl, rfl, rfl, id⟩, trivial⟩
  exact congrArg (· ++ (bs.drop o).take k) ((congrArg (fun n => List.take n ((ss.drop r).take a)) (Nat.zero_add a)).trans ht)
