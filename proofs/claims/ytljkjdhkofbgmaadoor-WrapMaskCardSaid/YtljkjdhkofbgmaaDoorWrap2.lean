import Derived.Test.YtljkjdhkofbgmaaDoorWrap
namespace Go.Proofs.YtljkjdhkofbgmaaDoor.Av
open Go
set_option linter.all false
set_option maxRecDepth 3000

def xrI (l : List (BitVec 8)) (o : Nat) (e : List (BitVec 8)) : Nat → List (BitVec 8)
  | 0 => l
  | i + 1 => (xrI l o e i).set (o + i) ((xrI l o e i).getD (o + i) 0 ^^^ e.getD i 0)
theorem xrI_length (l : List (BitVec 8)) (o : Nat) (e : List (BitVec 8)) : ∀ i, (xrI l o e i).length = l.length
  | 0 => rfl
  | i + 1 => by rw [xrI, List.length_set, xrI_length l o e i]
def blkN (n : BitVec 8) : List (BitVec 8) := [0, 0, 0, 0, 0, 0, 0, 0, 0, 0, 0, 0, 0, 0, 0, n]
instance (ks : List (List (BitVec 8))) : Pure (keysD ks) := ⟨fun s => ren_keysD s ks⟩
theorem over1_ac (l : List (BitVec 8)) (ks : List (List (BitVec 8))) (n : BitVec 8) (o : Nat) (c : Option Nat) (hl : l.length = 32) (ho : o ≤ 16) (h1 : ks.length = 15) (h2 : ∀ k ∈ ks, k.length = 16) :
    AC Tryd.prog 49 [.u8 n, .slice 0 [] o 16 c, .ptr 1 []] 3 [(0, some ⟨t32, .u8s l, true⟩), (1, some ⟨.cell, .ptr 2 [], true⟩), (2, some ⟨tC, keysD ks, true⟩)]
      ⟨.tup [], [(0, some (.u8s (xrI l o (encI ks (blkN n) 14) 16)))], []⟩ := by
  have he := encrypt_ac ks (blkN n) rfl h1 h2
  have hel := encI_length ks (blkN n) rfl 14
  generalize encI ks (blkN n) 14 = e at he hel ⊢
  refine acA tab mix Tryd.func49 {} ?_
  repeat first | refine EffG.mk (obA ?_) | refine obA ?_ | refine chkA ?_
  refine callA he [2] ?_
  repeat first | refine EffG.mk (obA ?_) | refine obA ?_ | refine chkA ?_
  refine loopG Nat (fun i => [(1, .slice 0 [] o 16 c), (10, .u8s e), (11, .i64 i)]) (fun i => [(0, some ⟨t32, .u8s (xrI l o e i), true⟩), (1, some ⟨.cell, .ptr 2 [], true⟩), (2, some ⟨tC, keysD ks, true⟩)]) 3 (fun i => i ≤ 16) (fun i => 16 - i) 0 [0, 1, 2] (Nat.zero_le _) viewA ?_
  intro i hi
  have hx := xrI_length l o e i
  rw [hl] at hx
  repeat first | refine EffG.mk (obA ?_) | refine obA ?_ | refine chkA ?_
  refine Br.split (fun h => ?_) (fun h => ?_)
  · have hi : i < 16 := by have := of_decide_eq_true h; omega
    repeat first | refine EffG.mk (obA ?_) | refine obA ?_ | refine chkA ?_
    refine nextA (i + 1) [0, 1, 2] viewA
  · obtain rfl : i = 16 := by have := of_decide_eq_false h; omega
    repeat first | refine EffG.mk (obA ?_) | refine obA ?_ | refine chkA ?_
    refine retA [0, 1, 2]

def wrapS : List (BitVec 8) := [119, 114, 97, 112]
def checkS : List (BitVec 8) := [99, 104, 101, 99, 107]
def maskF (by_ k : List (BitVec 8)) : List (BitVec 8) := xrI (xrI k 0 (encI (schedF (labF by_ wrapS)) (blkN 0) 14) 16) 16 (encI (schedF (labF by_ wrapS)) (blkN 1) 14) 16
theorem maskF_length (b k : List (BitVec 8)) : (maskF b k).length = k.length := by rw [maskF, xrI_length, xrI_length]
theorem masked_ac (b k : List (BitVec 8)) (hb : b.length = 32) (hk : k.length = 32) : AC Tryd.prog 31 [.u8s b, .u8s k] 0 [gR] ⟨.u8s (maskF b k), [], []⟩ := by
  have e : maskF b k = xrI (xrI k 0 (encI (schedF (labF b wrapS)) (blkN 0) 14) 16) 16 (encI (schedF (labF b wrapS)) (blkN 1) 14) 16 := rfl
  have hl := label_ac b wrapS hb (by decide) (by decide)
  have hll := labF_length b wrapS
  generalize labF b wrapS = x at e hl hll
  have hn := new_ac x hll
  have h1 := schedF_length x
  have h2 := schedF_lens x hll
  generalize schedF x = ks at e hn h1 h2
  have ho := fun l n o c hl ho => over1_ac l ks n o c hl ho h1 h2
  have hx := xrI_length k 0 (encI ks (blkN 0) 14) 16
  have hy := maskF_length b k
  generalize maskF b k = y at e hy ⊢
  refine acA tab mix Tryd.func31 {} ?_
  repeat first | refine EffG.mk (obA ?_) | refine obA ?_ | refine chkA ?_
  refine callA hl [] ?_
  repeat first | refine EffG.mk (obA ?_) | refine obA ?_ | refine chkA ?_
  refine callA hn [] ?_
  repeat first | refine EffG.mk (obA ?_) | refine obA ?_ | refine chkA ?_
  refine callA (ho k 0 0 (some 32) hk (by decide)) [1, 4, 3] ?_
  repeat first | refine EffG.mk (obA ?_) | refine obA ?_ | refine chkA ?_
  refine callA (ho _ 1 16 (some 16) (hx.trans hk) (by decide)) [1, 4, 3] ?_
  rw [← e]
  repeat first | refine EffG.mk (obA ?_) | refine obA ?_ | refine chkA ?_
  refine retA []
def chkF (by_ s : List (BitVec 8)) : List (BitVec 8) := hmF (labF by_ checkS) s
theorem chkF_length (b s : List (BitVec 8)) : (chkF b s).length = 32 := hmF_length _ _
theorem check_ac (b s : List (BitVec 8)) (hb : b.length = 32) (hs : s.length = 32) : AC Tryd.prog 20 [.u8s b, .u8s s] 0 [gR] ⟨.u8s (chkF b s), [], []⟩ := by
  have e : chkF b s = hmF (labF b checkS) s := rfl
  have hl := label_ac b checkS hb (by decide) (by decide)
  have hll := labF_length b checkS
  generalize labF b checkS = x at e hl hll
  have ho := hof1_ac x s 0 32 0 32 (some 32) (some 32) (by omega) (by omega) (by decide) (by decide) (by decide)
  rw [List.drop_zero, List.take_of_length_le (by omega), List.drop_zero, List.take_of_length_le (by omega), ← e] at ho
  have hy := chkF_length b s
  generalize chkF b s = y at ho hy ⊢
  refine acA tab mix Tryd.func20 {} ?_
  repeat first | refine EffG.mk (obA ?_) | refine obA ?_ | refine chkA ?_
  refine callA hl [] ?_
  repeat first | refine EffG.mk (obA ?_) | refine obA ?_ | refine chkA ?_
  refine callA ((ho.arr 0 32).arr 2 32) [3, 4, 1] ?_
  repeat first | refine EffG.mk (obA ?_) | refine obA ?_ | refine chkA ?_
  refine retA []
theorem seal_ac (b k : List (BitVec 8)) (hb : b.length = 32) (hk : k.length = 32) : AC Tryd.prog 18 [.u8s b, .u8s k] 0 [gR] ⟨.tup [.u8s (maskF b k), .u8s (chkF b (maskF b k))], [], []⟩ := by
  have hm := masked_ac b k hb hk
  have hy := maskF_length b k
  rw [hk] at hy
  generalize maskF b k = y at hm hy ⊢
  have hc := check_ac b y hb hy
  have hz := chkF_length b y
  generalize chkF b y = z at hc hz ⊢
  refine acA tab mix Tryd.func18 {} ?_
  repeat first | refine EffG.mk (obA ?_) | refine obA ?_ | refine chkA ?_
  refine callA hm [] ?_
  repeat first | refine EffG.mk (obA ?_) | refine obA ?_ | refine chkA ?_
  refine callA hc [] ?_
  repeat first | refine EffG.mk (obA ?_) | refine obA ?_ | refine chkA ?_
  refine retA []
theorem open_ac (b s c : List (BitVec 8)) (hb : b.length = 32) (hs : s.length = 32) (hc : c.length = 32) :
    AC Tryd.prog 23 [.u8s b, .u8s s, .u8s c] 0 [gR] ⟨.tup [.u8s (if chkF b s = c then maskF b s else List.replicate 32 0), .i64 (if chkF b s = c then 0 else 30)], [], []⟩ := by
  have hm := masked_ac b s hb hs
  have hy := maskF_length b s
  rw [hs] at hy
  generalize maskF b s = y at hm hy ⊢
  have hk := check_ac b s hb hs
  have hz := chkF_length b s
  generalize chkF b s = z at hk hz ⊢
  have hq := equal_ac z c 32 (some 32) (some 32) hz hc (by decide)
  refine acA tab mix Tryd.func23 {} ?_
  repeat first | refine EffG.mk (obA ?_) | refine obA ?_ | refine chkA ?_
  refine callA hk [] ?_
  repeat first | refine EffG.mk (obA ?_) | refine obA ?_ | refine chkA ?_
  refine callA ((hq.arr 0 32).arr 1 32) [4, 2] ?_
  repeat first | refine EffG.mk (obA ?_) | refine obA ?_ | refine chkA ?_
  refine Br.split (fun h => ?_) (fun h => ?_)
  · have h : ¬ z = c := by simpa using h
    rw [if_neg h, if_neg h]
    repeat first | refine EffG.mk (obA ?_) | refine obA ?_ | refine chkA ?_
    refine retA []
  · have h : z = c := by simpa using h
    rw [if_pos h, if_pos h]
    repeat first | refine EffG.mk (obA ?_) | refine obA ?_ | refine chkA ?_
    refine callA hm [] ?_
    repeat first | refine EffG.mk (obA ?_) | refine obA ?_ | refine chkA ?_
    refine retA []
end Go.Proofs.YtljkjdhkofbgmaaDoor.Av
