import Derived.Test.YtljkjdhkofbgmaaDoorHmac
import Derived.Test.YtljkjdhkofbgmaaDoorEnc
namespace Go.Proofs.YtljkjdhkofbgmaaDoor.Av
open Go
set_option linter.all false
set_option maxRecDepth 3000

/-! sums with a key; wrapped keys -/
def hmF (key m : List (BitVec 8)) : List (BitVec 8) := shaF (opF key ++ shaF (ipF key ++ m))
theorem hmF_length (key m : List (BitVec 8)) : (hmF key m).length = 32 := shaF_length _

/-- the first piece behind the key's block -/
theorem ip0 {N : List (BitVec 8)} (h : N.length = 64) : (N.drop 64).take (N.length % 64) = reF N := by rw [reF, h, List.drop_of_length_le (by omega)]; rfl

theorem hof1_ac (ks ss : List (BitVec 8)) (p k q l : Nat) (c d : Option Nat) (ha : p + k ≤ ks.length) (hb : q + l ≤ ss.length) (hk : k ≤ 64) (hl0 : 0 < l) (hl : l ≤ 35184372088832) :
    AC Tryd.prog 34 [.slice 0 [] p k c, .slice 1 [] 0 1 (some 1)] 3 [(0, some ⟨.row .cell, .u8s ks, false⟩), (1, some ⟨.row .cell, .node [.slice 2 [] q l d], true⟩), (2, some ⟨.row .cell, .u8s ss, false⟩), gR]
      ⟨.u8s (hmF ((ks.drop p).take k) ((ss.drop q).take l)), [], []⟩ := by
  have hkl : ((ks.drop p).take k).length = k := by rw [List.length_take, List.length_drop]; omega
  have hbl : ((ss.drop q).take l).length = l := by rw [List.length_take, List.length_drop]; omega
  have hn := hnew_ac ks p k c ha hk
  have e : hmF ((ks.drop p).take k) ((ss.drop q).take l) = shaF (opF ((ks.drop p).take k) ++ shaF (ipF ((ks.drop p).take k) ++ (ss.drop q).take l)) := rfl
  have hO := opF_length ((ks.drop p).take k)
  have hN := ipF_length (key := (ks.drop p).take k) (by omega)
  generalize hmF ((ks.drop p).take k) ((ss.drop q).take l) = y at e ⊢
  generalize opF ((ks.drop p).take k) = O at hn e hO
  generalize ipF ((ks.drop p).take k) = N at hn e hN
  have hw := macwrite_ac O N N ss 64 q l d (ip0 hN) (by rw [hN]; decide) hb hl0 hl (by omega)
  have hr := writeM_rest N ((ss.drop q).take l) hbl
  have hm := writeM_room N ((ss.drop q).take l) hbl
  rw [hN] at hr hm
  generalize (ss.drop q).take l = b at hw hr hm e hbl
  have hNl : (N ++ b).length = 64 + l := by rw [List.length_append, hN, hbl]
  have hs := macsum_ac O (N ++ b) (reF N ++ b) (64 * ((64 % 64 + l) / 64)) (by rw [hNl]; exact hr) (by rw [hNl]; exact hm) (by omega) hO
  rw [← e, hNl] at hs
  rw [hN] at hw
  have hy : y.length = 32 := by rw [e]; exact shaF_length _
  refine acA tab mix Tryd.func34 ⟨[], [3]⟩ ?_
  repeat first | refine EffG.mk (obA ?_) | refine obA ?_ | refine chkA ?_
  refine callA hn [0] ?_
  repeat first | refine EffG.mk (obA ?_) | refine obA ?_ | refine chkA ?_
  refine unrG 2 ?_
  repeat first | refine EffG.mk (obA ?_) | refine obA ?_ | refine chkA ?_ | refine brY ?_ | refine brN ?_
  refine callA hw [4, 5, 2, 6] ?_
  repeat first | refine EffG.mk (obA ?_) | refine obA ?_ | refine chkA ?_ | refine brY ?_ | refine brN ?_
  refine callA hs [4, 5, 7] ?_
  repeat first | refine EffG.mk (obA ?_) | refine obA ?_ | refine chkA ?_
  refine retA [0, 1, 2]

theorem hof2_ac (ks ss us : List (BitVec 8)) (p k q l r n : Nat) (c d f : Option Nat) (ha : p + k ≤ ks.length) (hb : q + l ≤ ss.length) (hc : r + n ≤ us.length) (hk : k ≤ 64) (hl0 : 0 < l) (hl : l ≤ 35184372088832) (hn0 : 0 < n) (hn : n ≤ 35184372088832) :
    AC Tryd.prog 34 [.slice 0 [] p k c, .slice 1 [] 0 2 (some 2)] 4 [(0, some ⟨.row .cell, .u8s ks, false⟩), (1, some ⟨.row .cell, .node [.slice 2 [] q l d, .slice 3 [] r n f], true⟩), (2, some ⟨.row .cell, .u8s ss, false⟩), (3, some ⟨.row .cell, .u8s us, false⟩), gR]
      ⟨.u8s (hmF ((ks.drop p).take k) ((ss.drop q).take l ++ (us.drop r).take n)), [], []⟩ := by
  have hkl : ((ks.drop p).take k).length = k := by rw [List.length_take, List.length_drop]; omega
  have hbl : ((ss.drop q).take l).length = l := by rw [List.length_take, List.length_drop]; omega
  have hul : ((us.drop r).take n).length = n := by rw [List.length_take, List.length_drop]; omega
  have hn := hnew_ac ks p k c ha hk
  have e : hmF ((ks.drop p).take k) ((ss.drop q).take l ++ (us.drop r).take n) = shaF (opF ((ks.drop p).take k) ++ shaF (ipF ((ks.drop p).take k) ++ ((ss.drop q).take l ++ (us.drop r).take n))) := rfl
  rw [← List.append_assoc] at e
  have hO := opF_length ((ks.drop p).take k)
  have hN := ipF_length (key := (ks.drop p).take k) (by omega)
  generalize hmF ((ks.drop p).take k) ((ss.drop q).take l ++ (us.drop r).take n) = y at e ⊢
  generalize opF ((ks.drop p).take k) = O at hn e hO
  generalize ipF ((ks.drop p).take k) = N at hn e hN
  have hw := macwrite_ac O N N ss 64 q l d (ip0 hN) (by rw [hN]; decide) hb hl0 hl (by omega)
  have hr := writeM_rest N ((ss.drop q).take l) hbl
  have hm := writeM_room N ((ss.drop q).take l) hbl
  rw [hN] at hr hm
  generalize (ss.drop q).take l = b at hw hr hm e hbl
  have hNl : (N ++ b).length = 64 + l := by rw [List.length_append, hN, hbl]
  have hw2 := macwrite_ac O (N ++ b) (reF N ++ b) us (64 * ((64 % 64 + l) / 64)) r n f (by rw [hNl]; exact hr) (by rw [hNl]; exact hm) hc hn0 (by omega) (by omega)
  have hr2 := writeM_rest (N ++ b) ((us.drop r).take n) hul
  have hm2 := writeM_room (N ++ b) ((us.drop r).take n) hul
  rw [hNl] at hr2 hm2
  generalize (us.drop r).take n = u at hw2 hr2 hm2 e hul
  have hNl2 : (N ++ b ++ u).length = 64 + l + n := by rw [List.length_append, hNl, hul]
  have hs := macsum_ac O (N ++ b ++ u) (reF (N ++ b) ++ u) (64 * (((64 + l) % 64 + n) / 64)) (by rw [hNl2]; exact hr2) (by rw [hNl2]; exact hm2) (by omega) hO
  rw [← e, hNl2] at hs
  rw [hNl] at hw2
  rw [hN] at hw
  have hy : y.length = 32 := by rw [e]; exact shaF_length _
  refine acA tab mix Tryd.func34 ⟨[], [3]⟩ ?_
  repeat first | refine EffG.mk (obA ?_) | refine obA ?_ | refine chkA ?_
  refine callA hn [0] ?_
  repeat first | refine EffG.mk (obA ?_) | refine obA ?_ | refine chkA ?_
  refine unrG 3 ?_
  repeat first | refine EffG.mk (obA ?_) | refine obA ?_ | refine chkA ?_ | refine brY ?_ | refine brN ?_
  refine callA hw [5, 6, 2, 7] ?_
  repeat first | refine EffG.mk (obA ?_) | refine obA ?_ | refine chkA ?_ | refine brY ?_ | refine brN ?_
  refine callA hw2 [5, 6, 3, 8] ?_
  repeat first | refine EffG.mk (obA ?_) | refine obA ?_ | refine chkA ?_ | refine brY ?_ | refine brN ?_
  refine callA hs [5, 6, 9] ?_
  repeat first | refine EffG.mk (obA ?_) | refine obA ?_ | refine chkA ?_
  refine retA [0, 1, 2, 3]

/-! are bytes the same? -/
def apI (a b : List (BitVec 8)) : Nat → BitVec 8
  | 0 => 0
  | i + 1 => apI a b i ||| (a.getD i 0 ^^^ b.getD i 0)
theorem or_zero {x y : BitVec 8} : x ||| y = 0 ↔ x = 0 ∧ y = 0 := by
  refine ⟨fun h => ⟨?_, ?_⟩, fun ⟨h, h'⟩ => by rw [h, h']; rfl⟩
  · refine BitVec.eq_of_getLsbD_eq fun i _ => ?_
    have := congrArg (fun z => BitVec.getLsbD z i) h
    simp only [BitVec.getLsbD_or] at this
    revert this; cases x.getLsbD i <;> simp
  · refine BitVec.eq_of_getLsbD_eq fun i _ => ?_
    have := congrArg (fun z => BitVec.getLsbD z i) h
    simp only [BitVec.getLsbD_or] at this
    revert this; cases y.getLsbD i <;> simp
theorem xor_zero {x y : BitVec 8} : x ^^^ y = 0 ↔ x = y := by
  refine ⟨fun h => ?_, fun h => by rw [h, BitVec.xor_self]; rfl⟩
  refine BitVec.eq_of_getLsbD_eq fun i _ => ?_
  have := congrArg (fun z => BitVec.getLsbD z i) h
  simp only [BitVec.getLsbD_xor] at this
  revert this; cases x.getLsbD i <;> cases y.getLsbD i <;> simp
theorem apI_zero (a b : List (BitVec 8)) : ∀ n, apI a b n = 0 ↔ ∀ i, i < n → a.getD i 0 = b.getD i 0
  | 0 => ⟨fun _ i h => absurd h (Nat.not_lt_zero i), fun _ => rfl⟩
  | n + 1 => by
    rw [apI, or_zero, apI_zero a b n, xor_zero]
    refine ⟨fun ⟨h1, h2⟩ i hi => ?_, fun h => ⟨fun i hi => h i (by omega), h n (by omega)⟩⟩
    rcases Nat.lt_or_ge i n with h | h
    · exact h1 i h
    · obtain rfl : i = n := by omega
      exact h2
theorem ext_getD {a b : List (BitVec 8)} (hl : a.length = b.length) (h : ∀ i, i < a.length → a.getD i 0 = b.getD i 0) : a = b := by
  refine List.ext_getElem hl fun i h1 h2 => ?_
  have := h i h1
  simpa [List.getD_eq_getElem?_getD, List.getElem?_eq_getElem h1, List.getElem?_eq_getElem h2] using this
theorem equal_ac (ss us : List (BitVec 8)) (n : Nat) (c d : Option Nat) (hs : ss.length = n) (hu : us.length = n) (hn : n ≤ 1000000) :
    AC Tryd.prog 37 [.slice 0 [] 0 n c, .slice 1 [] 0 n d] 2 [(0, some ⟨.row .cell, .u8s ss, false⟩), (1, some ⟨.row .cell, .u8s us, false⟩)] ⟨.bool (decide (ss = us)), [], []⟩ := by
  have hE : decide (ss = us) = decide (apI ss us n = 0) := by
    refine decide_eq_decide.2 ⟨fun h => (apI_zero ss us n).2 fun i _ => by rw [h], fun h => ext_getD (by omega) fun i hi => (apI_zero ss us n).1 h i (by omega)⟩
  rw [hE]
  refine acA tab mix Tryd.func37 {} ?_
  repeat first | refine EffG.mk (obA ?_) | refine obA ?_ | refine chkA ?_
  refine Br.no (by simp) ?_
  repeat first | refine EffG.mk (obA ?_) | refine obA ?_ | refine chkA ?_
  refine loopG Nat (fun i => [(0, .slice 0 [] 0 n c), (1, .slice 1 [] 0 n d), (5, .u8 (apI ss us i)), (13, .i64 n), (14, .i64 i)]) (fun i => [(0, some ⟨.row .cell, .u8s ss, false⟩), (1, some ⟨.row .cell, .u8s us, false⟩)]) 2 (fun i => i ≤ n) (fun i => n - i) 0 [0, 1] (Nat.zero_le _) viewA ?_
  intro i hi
  repeat first | refine EffG.mk (obA ?_) | refine obA ?_ | refine chkA ?_
  refine Br.split (fun h => ?_) (fun h => ?_)
  · have hi : i < n := by have := of_decide_eq_true h; omega
    repeat first | refine EffG.mk (obA ?_) | refine obA ?_ | refine chkA ?_
    refine nextA (i + 1) [0, 1] viewA
  · obtain rfl : i = n := by have := of_decide_eq_false h; omega
    repeat first | refine EffG.mk (obA ?_) | refine obA ?_ | refine chkA ?_
    refine retA [0, 1]

def oursF : List (BitVec 8) := [114, 101, 108, 105, 113, 117, 97, 114, 121, 32]
def labF (key l : List (BitVec 8)) : List (BitVec 8) := hmF key (oursF ++ l)
theorem labF_length (key l : List (BitVec 8)) : (labF key l).length = 32 := hmF_length _ _
theorem label_ac (key l : List (BitVec 8)) (hk : key.length = 32) (h0 : 0 < l.length) (hl : l.length ≤ 100) : AC Tryd.prog 33 [.u8s key, .str l] 0 [gR] ⟨.u8s (labF key l), [], []⟩ := by
  have ho := hof2_ac key oursF l 0 32 0 10 0 l.length (some 32) (some 10) none (by omega) (by decide) (by omega) (by decide) (by decide) (by decide) h0 (by omega)
  have e : labF key l = hmF key (oursF ++ l) := rfl
  rw [List.drop_zero, List.drop_zero, List.drop_zero, List.take_of_length_le (by omega), List.take_of_length_le (by decide), List.take_of_length_le (Nat.le_refl _), ← e] at ho
  have hy := labF_length key l
  generalize labF key l = y at ho hy ⊢
  refine acA tab mix Tryd.func33 {} ?_
  repeat first | refine EffG.mk (obA ?_) | refine obA ?_ | refine chkA ?_
  refine callA (ho.arr 0 32) [0, 4, 2, 3] ?_
  repeat first | refine EffG.mk (obA ?_) | refine obA ?_ | refine chkA ?_
  refine retA []
end Go.Proofs.YtljkjdhkofbgmaaDoor.Av
