import Derived.Test.YtodkhgofmgaafaaGreatDoorM7
import Derived.Test.YtodkhgofmgaafaaGreatDoorM6
namespace Go.Proofs.YtodkhgofmgaafaaGreatDoor.Av
open Go
set_option linter.all false
set_option maxRecDepth 3000
theorem tY {y z s : B8} {n : Nat} (hy : y.length = n) (hz : z.length = 4) (hs : s.length = 32) : List.take (n + 4) (List.take n y ++ List.take 4 z) ++ List.take 32 s = y ++ (z ++ s) := by
 rw [List.take_of_length_le (l := y) (by omega), List.take_of_length_le (l := z) (by omega), List.take_of_length_le (l := s) (by omega), List.take_of_length_le (by rw [List.length_append]; omega), List.append_assoc]
def nbO (b : Nat) : Nat → D
 |0 => .nilslice
 |n + 1 => .slice b [] 0 (36 * (n + 1)) none
def nbOM (b : Nat) : Nat → B8 → Mem
 |0, _ => []
 |_ + 1, y => [(b, some ⟨.row .cell, .u8s y, true⟩)]
set_option maxHeartbeats 4000000 in
theorem qN (a0 a1 a2 a3 a4 a5 a6 a7 : BitVec 32) (s0 s1 s2 s3 s4 s5 s6 s7 : B8) (h0 : s0.length = 32) (h1 : s1.length = 32) (h2 : s2.length = 32) (h3 : s3.length = 32) (h4 : s4.length = 32) (h5 : s5.length = 32) (h6 : s6.length = 32) (h7 : s7.length = 32) :
  AC Tryz.prog 68 [eR a0 a1 a2 a3 a4 a5 a6 a7 s0 s1 s2 s3 s4 s5 s6 s7] 0 [] ⟨.slice 0 [] 0 288 none, [], [(.row .cell, .u8s (bA a0 a1 a2 a3 a4 a5 a6 a7 s0 s1 s2 s3 s4 s5 s6 s7))]⟩ := by
 obtain ⟨NB, hNB⟩ : ∃ NB : Nat → B8, NB = fun i => match i with
  |0 => []
  |1 => (dK a0 s0)
  |2 => (dK a0 s0 ++ dK a1 s1)
  |3 => (dK a0 s0 ++ dK a1 s1 ++ dK a2 s2)
  |4 => (dK a0 s0 ++ dK a1 s1 ++ dK a2 s2 ++ dK a3 s3)
  |5 => (dK a0 s0 ++ dK a1 s1 ++ dK a2 s2 ++ dK a3 s3 ++ dK a4 s4)
  |6 => (dK a0 s0 ++ dK a1 s1 ++ dK a2 s2 ++ dK a3 s3 ++ dK a4 s4 ++ dK a5 s5)
  |7 => (dK a0 s0 ++ dK a1 s1 ++ dK a2 s2 ++ dK a3 s3 ++ dK a4 s4 ++ dK a5 s5 ++ dK a6 s6)
  |_ => bA a0 a1 a2 a3 a4 a5 a6 a7 s0 s1 s2 s3 s4 s5 s6 s7 := ⟨_, rfl⟩
 have n0 : NB 0 = [] := congrFun hNB 0
 have n1 : NB 1 = (dK a0 s0) := congrFun hNB 1
 have n2 : NB 2 = (dK a0 s0 ++ dK a1 s1) := congrFun hNB 2
 have n3 : NB 3 = (dK a0 s0 ++ dK a1 s1 ++ dK a2 s2) := congrFun hNB 3
 have n4 : NB 4 = (dK a0 s0 ++ dK a1 s1 ++ dK a2 s2 ++ dK a3 s3) := congrFun hNB 4
 have n5 : NB 5 = (dK a0 s0 ++ dK a1 s1 ++ dK a2 s2 ++ dK a3 s3 ++ dK a4 s4) := congrFun hNB 5
 have n6 : NB 6 = (dK a0 s0 ++ dK a1 s1 ++ dK a2 s2 ++ dK a3 s3 ++ dK a4 s4 ++ dK a5 s5) := congrFun hNB 6
 have n7 : NB 7 = (dK a0 s0 ++ dK a1 s1 ++ dK a2 s2 ++ dK a3 s3 ++ dK a4 s4 ++ dK a5 s5 ++ dK a6 s6) := congrFun hNB 7
 have n8 : NB 8 = bA a0 a1 a2 a3 a4 a5 a6 a7 s0 s1 s2 s3 s4 s5 s6 s7 := congrFun hNB 8
 have nl : ∀ i, i ≤ 8 → (NB i).length = 36 * i := by
  intro i hi
  have : i = 0 ∨ i = 1 ∨ i = 2 ∨ i = 3 ∨ i = 4 ∨ i = 5 ∨ i = 6 ∨ i = 7 ∨ i = 8 := by omega
  rcases this with rfl | rfl | rfl | rfl | rfl | rfl | rfl | rfl | rfl
  all_goals simp only [n0, n1, n2, n3, n4, n5, n6, n7, n8, bA, List.length_append, List.length_nil, aE h0, aE h1, aE h2, aE h3, aE h4, aE h5, aE h6, aE h7]
 have st0 : NB 1 = NB 0 ++ (u4B a0 ++ s0) := by rw [n1, n0]; rw [List.nil_append]; rfl
 have st1 : NB 2 = NB 1 ++ (u4B a1 ++ s1) := by rw [n2, n1]; rfl
 have st2 : NB 3 = NB 2 ++ (u4B a2 ++ s2) := by rw [n3, n2]; rfl
 have st3 : NB 4 = NB 3 ++ (u4B a3 ++ s3) := by rw [n4, n3]; rfl
 have st4 : NB 5 = NB 4 ++ (u4B a4 ++ s4) := by rw [n5, n4]; rfl
 have st5 : NB 6 = NB 5 ++ (u4B a5 ++ s5) := by rw [n6, n5]; rfl
 have st6 : NB 7 = NB 6 ++ (u4B a6 ++ s6) := by rw [n7, n6]; rfl
 have st7 : NB 8 = NB 7 ++ (u4B a7 ++ s7) := by rw [n8, n7]; rfl
 clear hNB n1 n2 n3 n4 n5 n6 n7
 rw [← n8]
 refine acA tab mix Tryz.func68 {} ?_
 refine EffG.mk (And.intro ?_ ?_)
 ·(repeat' (first | assumption | exact trivial | refine And.intro ?_ ?_)) <;> first | rfl | omega
 refine go ?_
 refine aX (Nat × B8) (fun y => [(1, .ptr 0 []), (3, nbO 1 y.1), (4, .i64 y.1)]) (fun y => (0, some ⟨tNd, eR a0 a1 a2 a3 a4 a5 a6 a7 s0 s1 s2 s3 s4 s5 s6 s7, true⟩) :: nbOM 1 y.1 y.2) 2
  (fun y => y.1 ≤ 8 ∧ y.2 = NB y.1) (fun y => 8 - y.1) (0, NB 0) [0, 1] ⟨Nat.zero_le _, rfl⟩ aK ?_
 rintro ⟨i, y⟩ hI
 obtain ⟨hi, hy⟩ := hI
 have hi : i ≤ 8 := hi
 have hy : y = NB i := hy
 have hl : y.length = 36 * i := by rw [hy]; exact nl i hi
 have : i = 0 ∨ i = 1 ∨ i = 2 ∨ i = 3 ∨ i = 4 ∨ i = 5 ∨ i = 6 ∨ i = 7 ∨ i = 8 := by omega
 rcases this with rfl | rfl | rfl | rfl | rfl | rfl | rfl | rfl | rfl
 ·have hp := fQ (a0.setWidth 64)
  have hz := aZ (a0.setWidth 64) 4
  have hst : NB 1 = NB 0 ++ (nbF (a0.setWidth 64) 4 ++ s0) := st0
  clear st0 st1 st2 st3 st4 st5 st6 st7 nl
  generalize nbF (a0.setWidth 64) 4 = z at hp hz hst
  have hx : List.take 4 (List.take 4 z) ++ List.take 32 s0 = NB 1 := by rw [hst, n0, List.nil_append, List.take_of_length_le (l := z) (by omega), List.take_of_length_le (l := s0) (by omega), List.take_of_length_le (by omega)]
  refine gob ?_
  refine aA hp [] ?_
  refine ⟨1, ?_⟩
  refine gob ?_
  refine ⟨0, ?_⟩
  refine gob ?_
  refine bB (1, List.take 4 (List.take 4 z) ++ List.take 32 s0) [0, 4] aK (h1 := ⟨Nat.le_of_ble_eq_true rfl, hx⟩) (h2 := (by decide : 8 - 1 < 8 - 0))
 ·have hp := fQ (a1.setWidth 64)
  have hz := aZ (a1.setWidth 64) 4
  have hst : NB 2 = NB 1 ++ (nbF (a1.setWidth 64) 4 ++ s1) := st1
  clear st0 st1 st2 st3 st4 st5 st6 st7 nl
  generalize nbF (a1.setWidth 64) 4 = z at hp hz hst
  have hx : List.take 40 (List.take 36 y ++ List.take 4 z) ++ List.take 32 s1 = NB 2 := by rw [hst, ← hy]; exact tY hl hz h1
  refine gob ?_
  refine aA hp [] ?_
  refine ⟨0, ?_⟩
  refine gob ?_
  refine ⟨0, ?_⟩
  refine gob ?_
  refine bB (2, List.take 40 (List.take 36 y ++ List.take 4 z) ++ List.take 32 s1) [0, 4] aK (h1 := ⟨Nat.le_of_ble_eq_true rfl, hx⟩) (h2 := (by decide : 8 - 2 < 8 - 1))
 ·have hp := fQ (a2.setWidth 64)
  have hz := aZ (a2.setWidth 64) 4
  have hst : NB 3 = NB 2 ++ (nbF (a2.setWidth 64) 4 ++ s2) := st2
  clear st0 st1 st2 st3 st4 st5 st6 st7 nl
  generalize nbF (a2.setWidth 64) 4 = z at hp hz hst
  have hx : List.take 76 (List.take 72 y ++ List.take 4 z) ++ List.take 32 s2 = NB 3 := by rw [hst, ← hy]; exact tY hl hz h2
  refine gob ?_
  refine aA hp [] ?_
  refine ⟨0, ?_⟩
  refine gob ?_
  refine ⟨0, ?_⟩
  refine gob ?_
  refine bB (3, List.take 76 (List.take 72 y ++ List.take 4 z) ++ List.take 32 s2) [0, 4] aK (h1 := ⟨Nat.le_of_ble_eq_true rfl, hx⟩) (h2 := (by decide : 8 - 3 < 8 - 2))
 ·have hp := fQ (a3.setWidth 64)
  have hz := aZ (a3.setWidth 64) 4
  have hst : NB 4 = NB 3 ++ (nbF (a3.setWidth 64) 4 ++ s3) := st3
  clear st0 st1 st2 st3 st4 st5 st6 st7 nl
  generalize nbF (a3.setWidth 64) 4 = z at hp hz hst
  have hx : List.take 112 (List.take 108 y ++ List.take 4 z) ++ List.take 32 s3 = NB 4 := by rw [hst, ← hy]; exact tY hl hz h3
  refine gob ?_
  refine aA hp [] ?_
  refine ⟨0, ?_⟩
  refine gob ?_
  refine ⟨0, ?_⟩
  refine gob ?_
  refine bB (4, List.take 112 (List.take 108 y ++ List.take 4 z) ++ List.take 32 s3) [0, 4] aK (h1 := ⟨Nat.le_of_ble_eq_true rfl, hx⟩) (h2 := (by decide : 8 - 4 < 8 - 3))
 ·have hp := fQ (a4.setWidth 64)
  have hz := aZ (a4.setWidth 64) 4
  have hst : NB 5 = NB 4 ++ (nbF (a4.setWidth 64) 4 ++ s4) := st4
  clear st0 st1 st2 st3 st4 st5 st6 st7 nl
  generalize nbF (a4.setWidth 64) 4 = z at hp hz hst
  have hx : List.take 148 (List.take 144 y ++ List.take 4 z) ++ List.take 32 s4 = NB 5 := by rw [hst, ← hy]; exact tY hl hz h4
  refine gob ?_
  refine aA hp [] ?_
  refine ⟨0, ?_⟩
  refine gob ?_
  refine ⟨0, ?_⟩
  refine gob ?_
  refine bB (5, List.take 148 (List.take 144 y ++ List.take 4 z) ++ List.take 32 s4) [0, 4] aK (h1 := ⟨Nat.le_of_ble_eq_true rfl, hx⟩) (h2 := (by decide : 8 - 5 < 8 - 4))
 ·have hp := fQ (a5.setWidth 64)
  have hz := aZ (a5.setWidth 64) 4
  have hst : NB 6 = NB 5 ++ (nbF (a5.setWidth 64) 4 ++ s5) := st5
  clear st0 st1 st2 st3 st4 st5 st6 st7 nl
  generalize nbF (a5.setWidth 64) 4 = z at hp hz hst
  have hx : List.take 184 (List.take 180 y ++ List.take 4 z) ++ List.take 32 s5 = NB 6 := by rw [hst, ← hy]; exact tY hl hz h5
  refine gob ?_
  refine aA hp [] ?_
  refine ⟨0, ?_⟩
  refine gob ?_
  refine ⟨0, ?_⟩
  refine gob ?_
  refine bB (6, List.take 184 (List.take 180 y ++ List.take 4 z) ++ List.take 32 s5) [0, 4] aK (h1 := ⟨Nat.le_of_ble_eq_true rfl, hx⟩) (h2 := (by decide : 8 - 6 < 8 - 5))
 ·have hp := fQ (a6.setWidth 64)
  have hz := aZ (a6.setWidth 64) 4
  have hst : NB 7 = NB 6 ++ (nbF (a6.setWidth 64) 4 ++ s6) := st6
  clear st0 st1 st2 st3 st4 st5 st6 st7 nl
  generalize nbF (a6.setWidth 64) 4 = z at hp hz hst
  have hx : List.take 220 (List.take 216 y ++ List.take 4 z) ++ List.take 32 s6 = NB 7 := by rw [hst, ← hy]; exact tY hl hz h6
  refine gob ?_
  refine aA hp [] ?_
  refine ⟨0, ?_⟩
  refine gob ?_
  refine ⟨0, ?_⟩
  refine gob ?_
  refine bB (7, List.take 220 (List.take 216 y ++ List.take 4 z) ++ List.take 32 s6) [0, 4] aK (h1 := ⟨Nat.le_of_ble_eq_true rfl, hx⟩) (h2 := (by decide : 8 - 7 < 8 - 6))
 ·have hp := fQ (a7.setWidth 64)
  have hz := aZ (a7.setWidth 64) 4
  have hst : NB 8 = NB 7 ++ (nbF (a7.setWidth 64) 4 ++ s7) := st7
  clear st0 st1 st2 st3 st4 st5 st6 st7 nl
  generalize nbF (a7.setWidth 64) 4 = z at hp hz hst
  have hx : List.take 256 (List.take 252 y ++ List.take 4 z) ++ List.take 32 s7 = NB 8 := by rw [hst, ← hy]; exact tY hl hz h7
  refine gob ?_
  refine aA hp [] ?_
  refine ⟨0, ?_⟩
  refine gob ?_
  refine ⟨0, ?_⟩
  refine gob ?_
  refine bB (8, List.take 256 (List.take 252 y ++ List.take 4 z) ++ List.take 32 s7) [0, 4] aK (h1 := ⟨Nat.le_of_ble_eq_true rfl, hx⟩) (h2 := (by decide : 8 - 8 < 8 - 7))
 ·subst hy
  refine gob ?_
  refine aI [1]
theorem sh_eq (a b c d : BitVec 8) : (a.setWidth 32 <<< (24 : Nat) ||| b.setWidth 32 <<< (16 : Nat) ||| c.setWidth 32 <<< (8 : Nat) ||| d.setWidth 32) =
  ((((((0 : BitVec 64) <<< (8 : Nat) ||| a.setWidth 64) <<< (8 : Nat) ||| b.setWidth 64) <<< (8 : Nat) ||| c.setWidth 64) <<< (8 : Nat) ||| d.setWidth 64)).setWidth 32 := by
 apply BitVec.eq_of_getLsbD_eq
 intro i hi
 have : i = 0 ∨ i = 1 ∨ i = 2 ∨ i = 3 ∨ i = 4 ∨ i = 5 ∨ i = 6 ∨ i = 7 ∨ i = 8 ∨ i = 9 ∨ i = 10 ∨ i = 11 ∨ i = 12 ∨ i = 13 ∨ i = 14 ∨ i = 15 ∨ i = 16 ∨ i = 17 ∨ i = 18 ∨ i = 19 ∨ i = 20 ∨ i = 21 ∨ i = 22 ∨ i = 23 ∨ i = 24 ∨ i = 25 ∨ i = 26 ∨ i = 27 ∨ i = 28 ∨ i = 29 ∨ i = 30 ∨ i = 31 := by omega
 rcases this with rfl | rfl | rfl | rfl | rfl | rfl | rfl | rfl | rfl | rfl | rfl | rfl | rfl | rfl | rfl | rfl | rfl | rfl | rfl | rfl | rfl | rfl | rfl | rfl | rfl | rfl | rfl | rfl | rfl | rfl | rfl | rfl <;>
  simp [BitVec.getLsbD_of_ge]
def shG (bs : B8) (o : Nat) : BitVec 32 := (bs.getD o 0).setWidth 32 <<< (24 : Nat) ||| (bs.getD (o + 1) 0).setWidth 32 <<< (16 : Nat) ||| (bs.getD (o + 2) 0).setWidth 32 <<< (8 : Nat) ||| (bs.getD (o + 3) 0).setWidth 32
theorem pH (bs : B8) (o : Nat) : shG bs o = u4G bs o := sh_eq _ _ _ _
theorem fI {D : B8} {k : Nat} {v : BitVec 8} (hD : D.length = 32) (hk : k < 32) (hv : v = D.getD k 0) :
  (D.take k ++ List.replicate (32 - k) 0).set k v = D.take (k + 1) ++ List.replicate (32 - (k + 1)) 0 := by
 have e : 32 - k = (32 - (k + 1)) + 1 := by omega
 rw [List.set_append_right _ _ (by rw [List.length_take]; omega), show k - (D.take k).length = 0 by rw [List.length_take]; omega, e, List.replicate_succ, List.set_cons_zero, List.take_add_one, hv, List.append_assoc]
 congr 1
 rw [List.getD_eq_getElem?_getD, List.getElem?_eq_getElem (by omega)]
 rfl
theorem iB {D : B8} (hD : D.length = 32) : D.take 32 ++ List.replicate (32 - 32) 0 = D := by
 rw [List.take_of_length_le (by omega), Nat.sub_self, List.replicate_zero, List.append_nil]
theorem iA {bs : B8} {o k : Nat} (hk : k < 32) : ((bs.drop o).take 32).getD k 0 = bs.getD (o + k) 0 := by
 rw [List.getD_eq_getElem?_getD, List.getD_eq_getElem?_getD, List.getElem?_take_of_lt hk, List.getElem?_drop]
set_option maxHeartbeats 8000000 in
theorem aCw (bs : B8) (hb : 288 ≤ bs.length) :
  AC Tryz.prog 53 [.slice 0 [] 0 288 none] 1 [(0, some ⟨.row .cell, .u8s bs, false⟩)] ⟨.tup [(aDa bs).1, .i64 (aDa bs).2], [], []⟩ := by
 obtain ⟨R, hR⟩ : ∃ R, aDa bs = R := ⟨_, rfl⟩
 rw [hR]
 refine acA tab mix Tryz.func53 {} ?_
 refine gob ?_
 refine aX (Nat × D) (fun y => [(0, .slice 0 [] 0 288 none), (2, .ptr 1 []), (4, .ptr 2 []), (5, .i64 y.1)]) (fun y => [(0, some ⟨.row .cell, .u8s bs, false⟩), (1, some ⟨tNd, iO, true⟩), (2, some ⟨tNd, y.2, true⟩)]) 3
  (fun y => y.1 ≤ 8 ∧ y.2 = gY bs y.1 ∧ ∀ j, j < y.1 → lJ bs (36 * j) = false) (fun y => 8 - y.1) (0, gY bs 0) [0, 1, 2] ⟨Nat.zero_le _, rfl, fun j h => absurd h (Nat.not_lt_zero _)⟩ aK ?_
 rintro ⟨i, d⟩ hI
 obtain ⟨hi, hd, hall⟩ := hI
 have hi : i ≤ 8 := hi
 have hd : d = gY bs i := hd
 have hall : ∀ j, j < i → lJ bs (36 * j) = false := hall
 have : i = 0 ∨ i = 1 ∨ i = 2 ∨ i = 3 ∨ i = 4 ∨ i = 5 ∨ i = 6 ∨ i = 7 ∨ i = 8 := by omega
 rcases this with rfl | rfl | rfl | rfl | rfl | rfl | rfl | rfl | rfl
 ·subst hd
  have l : ((bs.drop 4).take 32).length = 32 := by rw [List.length_take, List.length_drop]; omega
  have hb : lJ bs (36 * 0) = (decide (u4G bs 0 = 0) && !decide (((bs.drop 4).take 32) = zB 32)) := rfl
  have hx := cR (bs := bs) (i := 0) (by decide)
  rw [hb, hR] at hx
  have hy : gY bs 1 = (D.node [aB (u4G bs 0) ((bs.drop 4).take 32), aB 0 (zB 32), aB 0 (zB 32), aB 0 (zB 32), aB 0 (zB 32), aB 0 (zB 32), aB 0 (zB 32), aB 0 (zB 32)]) := rfl
  have hw : ∀ k, k < 32 → ((bs.drop 4).take 32).getD k 0 = bs.getD (4 + k) 0 := fun k hk => iA hk
  have hsh := pH bs 0
  generalize ((bs.drop 4).take 32) = sw at l hb hx hy hw
  refine go ?_
  refine brY ?_ (h := rfl)
  refine go ?_
  refine aX (Nat × B8 × BitVec 32) (fun y => [(0, .slice 0 [] 0 288 none), (2, .ptr 1 []), (4, .ptr 2 []), (5, .i64 (0 : Nat)), (6, .slice 0 [] 0 36 none), (7, .i64 y.1)]) (fun y => [(0, some ⟨.row .cell, .u8s bs, false⟩), (1, some ⟨tNd, iO, true⟩), (2, some ⟨tNd, (D.node [aB y.2.2 y.2.1, aB 0 (zB 32), aB 0 (zB 32), aB 0 (zB 32), aB 0 (zB 32), aB 0 (zB 32), aB 0 (zB 32), aB 0 (zB 32)]), true⟩)]) 3
   (fun y => y.1 ≤ 32 ∧ y.2.1 = sw.take y.1 ++ List.replicate (32 - y.1) 0 ∧ y.2.2 = u4G bs 0) (fun y => 32 - y.1) (0, zB 32, shG bs 0) [0, 1, 2] ⟨Nat.zero_le _, rfl, hsh⟩ aK ?_
  ·rintro ⟨k, s, a⟩ hI
   obtain ⟨hk, hs, ha⟩ := hI
   have hk : k ≤ 32 := hk
   have hs : s = sw.take k ++ List.replicate (32 - k) 0 := hs
   have ha : a = u4G bs 0 := ha
   have hsl : s.length = 32 := by rw [hs, List.length_append, List.length_take, List.length_replicate]; omega
   refine go ?_
   refine Br.split (fun hh => ?_) (fun hh => ?_)
   ·have hk : k < 32 := by have := of_decide_eq_true hh; omega
    have hn : s.set k (bs.getD (0 + (4 + k)) 0) = sw.take (k + 1) ++ List.replicate (32 - (k + 1)) 0 := by rw [hs]; exact fI l hk (by rw [hw k hk]; congr 1; omega)
    clear hh hs hw hx hy hb hall
    refine go ?_
    refine bB (k + 1, s.set k (bs.getD (0 + (4 + k)) 0), a) [0, 1, 2] aK (h1 := ⟨hk, hn, by assumption⟩) (h2 := by show 32 - (k + 1) < 32 - k; omega)
   ·obtain rfl : k = 32 := by have := of_decide_eq_false hh; omega
    rw [iB l] at hs
    subst hs
    clear hh hk
    rw [← ha] at hb hx hy
    refine go ?_
    by_cases qa : a = 0
    ·subst qa
     by_cases qs : s = zB 32
     ·subst qs
      refine gob ?_
      refine bB (1, (D.node [aB 0 (zB 32), aB 0 (zB 32), aB 0 (zB 32), aB 0 (zB 32), aB 0 (zB 32), aB 0 (zB 32), aB 0 (zB 32), aB 0 (zB 32)])) [0, 1, 2] aK (h1 := ⟨Nat.le_of_ble_eq_true rfl, hy.symm, dQ (R := R) ⟨hall, by rw [hb]; rfl⟩⟩) (h2 := (by decide : 8 - 1 < 8 - 0))
     ·have hx := hx (by rw [decide_eq_true rfl, decide_eq_false qs]; rfl)
      subst hx
      refine gob ?_
      refine brY ?_ (h := by show (!((aB 0 s).eqb (aB 0 (zB 32)))) = true; rw [dJ, decide_eq_false qs, Bool.and_false]; rfl)
      refine gob ?_
      refine aI [0]
    ·repeat first | refine go1 ?_ | refine Br.no (decide_eq_false qa) ?_ | refine Br.no rfl ?_
     refine bB (1, (D.node [aB a s, aB 0 (zB 32), aB 0 (zB 32), aB 0 (zB 32), aB 0 (zB 32), aB 0 (zB 32), aB 0 (zB 32), aB 0 (zB 32)])) [0, 1, 2] aK (h1 := ⟨Nat.le_of_ble_eq_true rfl, hy.symm, dQ (R := R) ⟨hall, by rw [hb, decide_eq_false qa]; rfl⟩⟩) (h2 := (by decide : 8 - 1 < 8 - 0))
 ·subst hd
  have l : ((bs.drop 40).take 32).length = 32 := by rw [List.length_take, List.length_drop]; omega
  have hb : lJ bs (36 * 1) = (decide (u4G bs 36 = 0) && !decide (((bs.drop 40).take 32) = zB 32)) := rfl
  have hx := cR (bs := bs) (i := 1) (by decide)
  rw [hb, hR] at hx
  have hy : gY bs 2 = (D.node [aB (u4G bs 0) ((bs.drop 4).take 32), aB (u4G bs 36) ((bs.drop 40).take 32), aB 0 (zB 32), aB 0 (zB 32), aB 0 (zB 32), aB 0 (zB 32), aB 0 (zB 32), aB 0 (zB 32)]) := rfl
  have hw : ∀ k, k < 32 → ((bs.drop 40).take 32).getD k 0 = bs.getD (40 + k) 0 := fun k hk => iA hk
  have hsh := pH bs 36
  generalize ((bs.drop 40).take 32) = sw at l hb hx hy hw
  refine go ?_
  refine brY ?_ (h := rfl)
  refine go ?_
  refine aX (Nat × B8 × BitVec 32) (fun y => [(0, .slice 0 [] 0 288 none), (2, .ptr 1 []), (4, .ptr 2 []), (5, .i64 (1 : Nat)), (6, .slice 0 [] 36 36 none), (7, .i64 y.1)]) (fun y => [(0, some ⟨.row .cell, .u8s bs, false⟩), (1, some ⟨tNd, iO, true⟩), (2, some ⟨tNd, (D.node [aB (u4G bs 0) ((bs.drop 4).take 32), aB y.2.2 y.2.1, aB 0 (zB 32), aB 0 (zB 32), aB 0 (zB 32), aB 0 (zB 32), aB 0 (zB 32), aB 0 (zB 32)]), true⟩)]) 3
   (fun y => y.1 ≤ 32 ∧ y.2.1 = sw.take y.1 ++ List.replicate (32 - y.1) 0 ∧ y.2.2 = u4G bs 36) (fun y => 32 - y.1) (0, zB 32, shG bs 36) [0, 1, 2] ⟨Nat.zero_le _, rfl, hsh⟩ aK ?_
  ·rintro ⟨k, s, a⟩ hI
   obtain ⟨hk, hs, ha⟩ := hI
   have hk : k ≤ 32 := hk
   have hs : s = sw.take k ++ List.replicate (32 - k) 0 := hs
   have ha : a = u4G bs 36 := ha
   have hsl : s.length = 32 := by rw [hs, List.length_append, List.length_take, List.length_replicate]; omega
   refine go ?_
   refine Br.split (fun hh => ?_) (fun hh => ?_)
   ·have hk : k < 32 := by have := of_decide_eq_true hh; omega
    have hn : s.set k (bs.getD (36 + (4 + k)) 0) = sw.take (k + 1) ++ List.replicate (32 - (k + 1)) 0 := by rw [hs]; exact fI l hk (by rw [hw k hk]; congr 1; omega)
    clear hh hs hw hx hy hb hall
    refine go ?_
    refine bB (k + 1, s.set k (bs.getD (36 + (4 + k)) 0), a) [0, 1, 2] aK (h1 := ⟨hk, hn, by assumption⟩) (h2 := by show 32 - (k + 1) < 32 - k; omega)
   ·obtain rfl : k = 32 := by have := of_decide_eq_false hh; omega
    rw [iB l] at hs
    subst hs
    clear hh hk
    rw [← ha] at hb hx hy
    refine go ?_
    by_cases qa : a = 0
    ·subst qa
     by_cases qs : s = zB 32
     ·subst qs
      refine gob ?_
      refine bB (2, (D.node [aB (u4G bs 0) ((bs.drop 4).take 32), aB 0 (zB 32), aB 0 (zB 32), aB 0 (zB 32), aB 0 (zB 32), aB 0 (zB 32), aB 0 (zB 32), aB 0 (zB 32)])) [0, 1, 2] aK (h1 := ⟨Nat.le_of_ble_eq_true rfl, hy.symm, dQ (R := R) ⟨hall, by rw [hb]; rfl⟩⟩) (h2 := (by decide : 8 - 2 < 8 - 1))
     ·have hx := hx (by rw [decide_eq_true rfl, decide_eq_false qs]; rfl)
      subst hx
      refine gob ?_
      refine brY ?_ (h := by show (!((aB 0 s).eqb (aB 0 (zB 32)))) = true; rw [dJ, decide_eq_false qs, Bool.and_false]; rfl)
      refine gob ?_
      refine aI [0]
    ·repeat first | refine go1 ?_ | refine Br.no (decide_eq_false qa) ?_ | refine Br.no rfl ?_
     refine bB (2, (D.node [aB (u4G bs 0) ((bs.drop 4).take 32), aB a s, aB 0 (zB 32), aB 0 (zB 32), aB 0 (zB 32), aB 0 (zB 32), aB 0 (zB 32), aB 0 (zB 32)])) [0, 1, 2] aK (h1 := ⟨Nat.le_of_ble_eq_true rfl, hy.symm, dQ (R := R) ⟨hall, by rw [hb, decide_eq_false qa]; rfl⟩⟩) (h2 := (by decide : 8 - 2 < 8 - 1))
 ·subst hd
  have l : ((bs.drop 76).take 32).length = 32 := by rw [List.length_take, List.length_drop]; omega
  have hb : lJ bs (36 * 2) = (decide (u4G bs 72 = 0) && !decide (((bs.drop 76).take 32) = zB 32)) := rfl
  have hx := cR (bs := bs) (i := 2) (by decide)
  rw [hb, hR] at hx
  have hy : gY bs 3 = (D.node [aB (u4G bs 0) ((bs.drop 4).take 32), aB (u4G bs 36) ((bs.drop 40).take 32), aB (u4G bs 72) ((bs.drop 76).take 32), aB 0 (zB 32), aB 0 (zB 32), aB 0 (zB 32), aB 0 (zB 32), aB 0 (zB 32)]) := rfl
  have hw : ∀ k, k < 32 → ((bs.drop 76).take 32).getD k 0 = bs.getD (76 + k) 0 := fun k hk => iA hk
  have hsh := pH bs 72
  generalize ((bs.drop 76).take 32) = sw at l hb hx hy hw
  refine go ?_
  refine brY ?_ (h := rfl)
  refine go ?_
  refine aX (Nat × B8 × BitVec 32) (fun y => [(0, .slice 0 [] 0 288 none), (2, .ptr 1 []), (4, .ptr 2 []), (5, .i64 (2 : Nat)), (6, .slice 0 [] 72 36 none), (7, .i64 y.1)]) (fun y => [(0, some ⟨.row .cell, .u8s bs, false⟩), (1, some ⟨tNd, iO, true⟩), (2, some ⟨tNd, (D.node [aB (u4G bs 0) ((bs.drop 4).take 32), aB (u4G bs 36) ((bs.drop 40).take 32), aB y.2.2 y.2.1, aB 0 (zB 32), aB 0 (zB 32), aB 0 (zB 32), aB 0 (zB 32), aB 0 (zB 32)]), true⟩)]) 3
   (fun y => y.1 ≤ 32 ∧ y.2.1 = sw.take y.1 ++ List.replicate (32 - y.1) 0 ∧ y.2.2 = u4G bs 72) (fun y => 32 - y.1) (0, zB 32, shG bs 72) [0, 1, 2] ⟨Nat.zero_le _, rfl, hsh⟩ aK ?_
  ·rintro ⟨k, s, a⟩ hI
   obtain ⟨hk, hs, ha⟩ := hI
   have hk : k ≤ 32 := hk
   have hs : s = sw.take k ++ List.replicate (32 - k) 0 := hs
   have ha : a = u4G bs 72 := ha
   have hsl : s.length = 32 := by rw [hs, List.length_append, List.length_take, List.length_replicate]; omega
   refine go ?_
   refine Br.split (fun hh => ?_) (fun hh => ?_)
   ·have hk : k < 32 := by have := of_decide_eq_true hh; omega
    have hn : s.set k (bs.getD (72 + (4 + k)) 0) = sw.take (k + 1) ++ List.replicate (32 - (k + 1)) 0 := by rw [hs]; exact fI l hk (by rw [hw k hk]; congr 1; omega)
    clear hh hs hw hx hy hb hall
    refine go ?_
    refine bB (k + 1, s.set k (bs.getD (72 + (4 + k)) 0), a) [0, 1, 2] aK (h1 := ⟨hk, hn, by assumption⟩) (h2 := by show 32 - (k + 1) < 32 - k; omega)
   ·obtain rfl : k = 32 := by have := of_decide_eq_false hh; omega
    rw [iB l] at hs
    subst hs
    clear hh hk
    rw [← ha] at hb hx hy
    refine go ?_
    by_cases qa : a = 0
    ·subst qa
     by_cases qs : s = zB 32
     ·subst qs
      refine gob ?_
      refine bB (3, (D.node [aB (u4G bs 0) ((bs.drop 4).take 32), aB (u4G bs 36) ((bs.drop 40).take 32), aB 0 (zB 32), aB 0 (zB 32), aB 0 (zB 32), aB 0 (zB 32), aB 0 (zB 32), aB 0 (zB 32)])) [0, 1, 2] aK (h1 := ⟨Nat.le_of_ble_eq_true rfl, hy.symm, dQ (R := R) ⟨hall, by rw [hb]; rfl⟩⟩) (h2 := (by decide : 8 - 3 < 8 - 2))
     ·have hx := hx (by rw [decide_eq_true rfl, decide_eq_false qs]; rfl)
      subst hx
      refine gob ?_
      refine brY ?_ (h := by show (!((aB 0 s).eqb (aB 0 (zB 32)))) = true; rw [dJ, decide_eq_false qs, Bool.and_false]; rfl)
      refine gob ?_
      refine aI [0]
    ·repeat first | refine go1 ?_ | refine Br.no (decide_eq_false qa) ?_ | refine Br.no rfl ?_
     refine bB (3, (D.node [aB (u4G bs 0) ((bs.drop 4).take 32), aB (u4G bs 36) ((bs.drop 40).take 32), aB a s, aB 0 (zB 32), aB 0 (zB 32), aB 0 (zB 32), aB 0 (zB 32), aB 0 (zB 32)])) [0, 1, 2] aK (h1 := ⟨Nat.le_of_ble_eq_true rfl, hy.symm, dQ (R := R) ⟨hall, by rw [hb, decide_eq_false qa]; rfl⟩⟩) (h2 := (by decide : 8 - 3 < 8 - 2))
 ·subst hd
  have l : ((bs.drop 112).take 32).length = 32 := by rw [List.length_take, List.length_drop]; omega
  have hb : lJ bs (36 * 3) = (decide (u4G bs 108 = 0) && !decide (((bs.drop 112).take 32) = zB 32)) := rfl
  have hx := cR (bs := bs) (i := 3) (by decide)
  rw [hb, hR] at hx
  have hy : gY bs 4 = (D.node [aB (u4G bs 0) ((bs.drop 4).take 32), aB (u4G bs 36) ((bs.drop 40).take 32), aB (u4G bs 72) ((bs.drop 76).take 32), aB (u4G bs 108) ((bs.drop 112).take 32), aB 0 (zB 32), aB 0 (zB 32), aB 0 (zB 32), aB 0 (zB 32)]) := rfl
  have hw : ∀ k, k < 32 → ((bs.drop 112).take 32).getD k 0 = bs.getD (112 + k) 0 := fun k hk => iA hk
  have hsh := pH bs 108
  generalize ((bs.drop 112).take 32) = sw at l hb hx hy hw
  refine go ?_
  refine brY ?_ (h := rfl)
  refine go ?_
  refine aX (Nat × B8 × BitVec 32) (fun y => [(0, .slice 0 [] 0 288 none), (2, .ptr 1 []), (4, .ptr 2 []), (5, .i64 (3 : Nat)), (6, .slice 0 [] 108 36 none), (7, .i64 y.1)]) (fun y => [(0, some ⟨.row .cell, .u8s bs, false⟩), (1, some ⟨tNd, iO, true⟩), (2, some ⟨tNd, (D.node [aB (u4G bs 0) ((bs.drop 4).take 32), aB (u4G bs 36) ((bs.drop 40).take 32), aB (u4G bs 72) ((bs.drop 76).take 32), aB y.2.2 y.2.1, aB 0 (zB 32), aB 0 (zB 32), aB 0 (zB 32), aB 0 (zB 32)]), true⟩)]) 3
   (fun y => y.1 ≤ 32 ∧ y.2.1 = sw.take y.1 ++ List.replicate (32 - y.1) 0 ∧ y.2.2 = u4G bs 108) (fun y => 32 - y.1) (0, zB 32, shG bs 108) [0, 1, 2] ⟨Nat.zero_le _, rfl, hsh⟩ aK ?_
  ·rintro ⟨k, s, a⟩ hI
   obtain ⟨hk, hs, ha⟩ := hI
   have hk : k ≤ 32 := hk
   have hs : s = sw.take k ++ List.replicate (32 - k) 0 := hs
   have ha : a = u4G bs 108 := ha
   have hsl : s.length = 32 := by rw [hs, List.length_append, List.length_take, List.length_replicate]; omega
   refine go ?_
   refine Br.split (fun hh => ?_) (fun hh => ?_)
   ·have hk : k < 32 := by have := of_decide_eq_true hh; omega
    have hn : s.set k (bs.getD (108 + (4 + k)) 0) = sw.take (k + 1) ++ List.replicate (32 - (k + 1)) 0 := by rw [hs]; exact fI l hk (by rw [hw k hk]; congr 1; omega)
    clear hh hs hw hx hy hb hall
    refine go ?_
    refine bB (k + 1, s.set k (bs.getD (108 + (4 + k)) 0), a) [0, 1, 2] aK (h1 := ⟨hk, hn, by assumption⟩) (h2 := by show 32 - (k + 1) < 32 - k; omega)
   ·obtain rfl : k = 32 := by have := of_decide_eq_false hh; omega
    rw [iB l] at hs
    subst hs
    clear hh hk
    rw [← ha] at hb hx hy
    refine go ?_
    by_cases qa : a = 0
    ·subst qa
     by_cases qs : s = zB 32
     ·subst qs
      refine gob ?_
      refine bB (4, (D.node [aB (u4G bs 0) ((bs.drop 4).take 32), aB (u4G bs 36) ((bs.drop 40).take 32), aB (u4G bs 72) ((bs.drop 76).take 32), aB 0 (zB 32), aB 0 (zB 32), aB 0 (zB 32), aB 0 (zB 32), aB 0 (zB 32)])) [0, 1, 2] aK (h1 := ⟨Nat.le_of_ble_eq_true rfl, hy.symm, dQ (R := R) ⟨hall, by rw [hb]; rfl⟩⟩) (h2 := (by decide : 8 - 4 < 8 - 3))
     ·have hx := hx (by rw [decide_eq_true rfl, decide_eq_false qs]; rfl)
      subst hx
      refine gob ?_
      refine brY ?_ (h := by show (!((aB 0 s).eqb (aB 0 (zB 32)))) = true; rw [dJ, decide_eq_false qs, Bool.and_false]; rfl)
      refine gob ?_
      refine aI [0]
    ·repeat first | refine go1 ?_ | refine Br.no (decide_eq_false qa) ?_ | refine Br.no rfl ?_
     refine bB (4, (D.node [aB (u4G bs 0) ((bs.drop 4).take 32), aB (u4G bs 36) ((bs.drop 40).take 32), aB (u4G bs 72) ((bs.drop 76).take 32), aB a s, aB 0 (zB 32), aB 0 (zB 32), aB 0 (zB 32), aB 0 (zB 32)])) [0, 1, 2] aK (h1 := ⟨Nat.le_of_ble_eq_true rfl, hy.symm, dQ (R := R) ⟨hall, by rw [hb, decide_eq_false qa]; rfl⟩⟩) (h2 := (by decide : 8 - 4 < 8 - 3))
 ·subst hd
  have l : ((bs.drop 148).take 32).length = 32 := by rw [List.length_take, List.length_drop]; omega
  have hb : lJ bs (36 * 4) = (decide (u4G bs 144 = 0) && !decide (((bs.drop 148).take 32) = zB 32)) := rfl
  have hx := cR (bs := bs) (i := 4) (by decide)
  rw [hb, hR] at hx
  have hy : gY bs 5 = (D.node [aB (u4G bs 0) ((bs.drop 4).take 32), aB (u4G bs 36) ((bs.drop 40).take 32), aB (u4G bs 72) ((bs.drop 76).take 32), aB (u4G bs 108) ((bs.drop 112).take 32), aB (u4G bs 144) ((bs.drop 148).take 32), aB 0 (zB 32), aB 0 (zB 32), aB 0 (zB 32)]) := rfl
  have hw : ∀ k, k < 32 → ((bs.drop 148).take 32).getD k 0 = bs.getD (148 + k) 0 := fun k hk => iA hk
  have hsh := pH bs 144
  generalize ((bs.drop 148).take 32) = sw at l hb hx hy hw
  refine go ?_
  refine brY ?_ (h := rfl)
  refine go ?_
  refine aX (Nat × B8 × BitVec 32) (fun y => [(0, .slice 0 [] 0 288 none), (2, .ptr 1 []), (4, .ptr 2 []), (5, .i64 (4 : Nat)), (6, .slice 0 [] 144 36 none), (7, .i64 y.1)]) (fun y => [(0, some ⟨.row .cell, .u8s bs, false⟩), (1, some ⟨tNd, iO, true⟩), (2, some ⟨tNd, (D.node [aB (u4G bs 0) ((bs.drop 4).take 32), aB (u4G bs 36) ((bs.drop 40).take 32), aB (u4G bs 72) ((bs.drop 76).take 32), aB (u4G bs 108) ((bs.drop 112).take 32), aB y.2.2 y.2.1, aB 0 (zB 32), aB 0 (zB 32), aB 0 (zB 32)]), true⟩)]) 3
   (fun y => y.1 ≤ 32 ∧ y.2.1 = sw.take y.1 ++ List.replicate (32 - y.1) 0 ∧ y.2.2 = u4G bs 144) (fun y => 32 - y.1) (0, zB 32, shG bs 144) [0, 1, 2] ⟨Nat.zero_le _, rfl, hsh⟩ aK ?_
  ·rintro ⟨k, s, a⟩ hI
   obtain ⟨hk, hs, ha⟩ := hI
   have hk : k ≤ 32 := hk
   have hs : s = sw.take k ++ List.replicate (32 - k) 0 := hs
   have ha : a = u4G bs 144 := ha
   have hsl : s.length = 32 := by rw [hs, List.length_append, List.length_take, List.length_replicate]; omega
   refine go ?_
   refine Br.split (fun hh => ?_) (fun hh => ?_)
   ·have hk : k < 32 := by have := of_decide_eq_true hh; omega
    have hn : s.set k (bs.getD (144 + (4 + k)) 0) = sw.take (k + 1) ++ List.replicate (32 - (k + 1)) 0 := by rw [hs]; exact fI l hk (by rw [hw k hk]; congr 1; omega)
    clear hh hs hw hx hy hb hall
    refine go ?_
    refine bB (k + 1, s.set k (bs.getD (144 + (4 + k)) 0), a) [0, 1, 2] aK (h1 := ⟨hk, hn, by assumption⟩) (h2 := by show 32 - (k + 1) < 32 - k; omega)
   ·obtain rfl : k = 32 := by have := of_decide_eq_false hh; omega
    rw [iB l] at hs
    subst hs
    clear hh hk
    rw [← ha] at hb hx hy
    refine go ?_
    by_cases qa : a = 0
    ·subst qa
     by_cases qs : s = zB 32
     ·subst qs
      refine gob ?_
      refine bB (5, (D.node [aB (u4G bs 0) ((bs.drop 4).take 32), aB (u4G bs 36) ((bs.drop 40).take 32), aB (u4G bs 72) ((bs.drop 76).take 32), aB (u4G bs 108) ((bs.drop 112).take 32), aB 0 (zB 32), aB 0 (zB 32), aB 0 (zB 32), aB 0 (zB 32)])) [0, 1, 2] aK (h1 := ⟨Nat.le_of_ble_eq_true rfl, hy.symm, dQ (R := R) ⟨hall, by rw [hb]; rfl⟩⟩) (h2 := (by decide : 8 - 5 < 8 - 4))
     ·have hx := hx (by rw [decide_eq_true rfl, decide_eq_false qs]; rfl)
      subst hx
      refine gob ?_
      refine brY ?_ (h := by show (!((aB 0 s).eqb (aB 0 (zB 32)))) = true; rw [dJ, decide_eq_false qs, Bool.and_false]; rfl)
      refine gob ?_
      refine aI [0]
    ·repeat first | refine go1 ?_ | refine Br.no (decide_eq_false qa) ?_ | refine Br.no rfl ?_
     refine bB (5, (D.node [aB (u4G bs 0) ((bs.drop 4).take 32), aB (u4G bs 36) ((bs.drop 40).take 32), aB (u4G bs 72) ((bs.drop 76).take 32), aB (u4G bs 108) ((bs.drop 112).take 32), aB a s, aB 0 (zB 32), aB 0 (zB 32), aB 0 (zB 32)])) [0, 1, 2] aK (h1 := ⟨Nat.le_of_ble_eq_true rfl, hy.symm, dQ (R := R) ⟨hall, by rw [hb, decide_eq_false qa]; rfl⟩⟩) (h2 := (by decide : 8 - 5 < 8 - 4))
 ·subst hd
  have l : ((bs.drop 184).take 32).length = 32 := by rw [List.length_take, List.length_drop]; omega
  have hb : lJ bs (36 * 5) = (decide (u4G bs 180 = 0) && !decide (((bs.drop 184).take 32) = zB 32)) := rfl
  have hx := cR (bs := bs) (i := 5) (by decide)
  rw [hb, hR] at hx
  have hy : gY bs 6 = (D.node [aB (u4G bs 0) ((bs.drop 4).take 32), aB (u4G bs 36) ((bs.drop 40).take 32), aB (u4G bs 72) ((bs.drop 76).take 32), aB (u4G bs 108) ((bs.drop 112).take 32), aB (u4G bs 144) ((bs.drop 148).take 32), aB (u4G bs 180) ((bs.drop 184).take 32), aB 0 (zB 32), aB 0 (zB 32)]) := rfl
  have hw : ∀ k, k < 32 → ((bs.drop 184).take 32).getD k 0 = bs.getD (184 + k) 0 := fun k hk => iA hk
  have hsh := pH bs 180
  generalize ((bs.drop 184).take 32) = sw at l hb hx hy hw
  refine go ?_
  refine brY ?_ (h := rfl)
  refine go ?_
  refine aX (Nat × B8 × BitVec 32) (fun y => [(0, .slice 0 [] 0 288 none), (2, .ptr 1 []), (4, .ptr 2 []), (5, .i64 (5 : Nat)), (6, .slice 0 [] 180 36 none), (7, .i64 y.1)]) (fun y => [(0, some ⟨.row .cell, .u8s bs, false⟩), (1, some ⟨tNd, iO, true⟩), (2, some ⟨tNd, (D.node [aB (u4G bs 0) ((bs.drop 4).take 32), aB (u4G bs 36) ((bs.drop 40).take 32), aB (u4G bs 72) ((bs.drop 76).take 32), aB (u4G bs 108) ((bs.drop 112).take 32), aB (u4G bs 144) ((bs.drop 148).take 32), aB y.2.2 y.2.1, aB 0 (zB 32), aB 0 (zB 32)]), true⟩)]) 3
   (fun y => y.1 ≤ 32 ∧ y.2.1 = sw.take y.1 ++ List.replicate (32 - y.1) 0 ∧ y.2.2 = u4G bs 180) (fun y => 32 - y.1) (0, zB 32, shG bs 180) [0, 1, 2] ⟨Nat.zero_le _, rfl, hsh⟩ aK ?_
  ·rintro ⟨k, s, a⟩ hI
   obtain ⟨hk, hs, ha⟩ := hI
   have hk : k ≤ 32 := hk
   have hs : s = sw.take k ++ List.replicate (32 - k) 0 := hs
   have ha : a = u4G bs 180 := ha
   have hsl : s.length = 32 := by rw [hs, List.length_append, List.length_take, List.length_replicate]; omega
   refine go ?_
   refine Br.split (fun hh => ?_) (fun hh => ?_)
   ·have hk : k < 32 := by have := of_decide_eq_true hh; omega
    have hn : s.set k (bs.getD (180 + (4 + k)) 0) = sw.take (k + 1) ++ List.replicate (32 - (k + 1)) 0 := by rw [hs]; exact fI l hk (by rw [hw k hk]; congr 1; omega)
    clear hh hs hw hx hy hb hall
    refine go ?_
    refine bB (k + 1, s.set k (bs.getD (180 + (4 + k)) 0), a) [0, 1, 2] aK (h1 := ⟨hk, hn, by assumption⟩) (h2 := by show 32 - (k + 1) < 32 - k; omega)
   ·obtain rfl : k = 32 := by have := of_decide_eq_false hh; omega
    rw [iB l] at hs
    subst hs
    clear hh hk
    rw [← ha] at hb hx hy
    refine go ?_
    by_cases qa : a = 0
    ·subst qa
     by_cases qs : s = zB 32
     ·subst qs
      refine gob ?_
      refine bB (6, (D.node [aB (u4G bs 0) ((bs.drop 4).take 32), aB (u4G bs 36) ((bs.drop 40).take 32), aB (u4G bs 72) ((bs.drop 76).take 32), aB (u4G bs 108) ((bs.drop 112).take 32), aB (u4G bs 144) ((bs.drop 148).take 32), aB 0 (zB 32), aB 0 (zB 32), aB 0 (zB 32)])) [0, 1, 2] aK (h1 := ⟨Nat.le_of_ble_eq_true rfl, hy.symm, dQ (R := R) ⟨hall, by rw [hb]; rfl⟩⟩) (h2 := (by decide : 8 - 6 < 8 - 5))
     ·have hx := hx (by rw [decide_eq_true rfl, decide_eq_false qs]; rfl)
      subst hx
      refine gob ?_
      refine brY ?_ (h := by show (!((aB 0 s).eqb (aB 0 (zB 32)))) = true; rw [dJ, decide_eq_false qs, Bool.and_false]; rfl)
      refine gob ?_
      refine aI [0]
    ·repeat first | refine go1 ?_ | refine Br.no (decide_eq_false qa) ?_ | refine Br.no rfl ?_
     refine bB (6, (D.node [aB (u4G bs 0) ((bs.drop 4).take 32), aB (u4G bs 36) ((bs.drop 40).take 32), aB (u4G bs 72) ((bs.drop 76).take 32), aB (u4G bs 108) ((bs.drop 112).take 32), aB (u4G bs 144) ((bs.drop 148).take 32), aB a s, aB 0 (zB 32), aB 0 (zB 32)])) [0, 1, 2] aK (h1 := ⟨Nat.le_of_ble_eq_true rfl, hy.symm, dQ (R := R) ⟨hall, by rw [hb, decide_eq_false qa]; rfl⟩⟩) (h2 := (by decide : 8 - 6 < 8 - 5))
 ·subst hd
  have l : ((bs.drop 220).take 32).length = 32 := by rw [List.length_take, List.length_drop]; omega
  have hb : lJ bs (36 * 6) = (decide (u4G bs 216 = 0) && !decide (((bs.drop 220).take 32) = zB 32)) := rfl
  have hx := cR (bs := bs) (i := 6) (by decide)
  rw [hb, hR] at hx
  have hy : gY bs 7 = (D.node [aB (u4G bs 0) ((bs.drop 4).take 32), aB (u4G bs 36) ((bs.drop 40).take 32), aB (u4G bs 72) ((bs.drop 76).take 32), aB (u4G bs 108) ((bs.drop 112).take 32), aB (u4G bs 144) ((bs.drop 148).take 32), aB (u4G bs 180) ((bs.drop 184).take 32), aB (u4G bs 216) ((bs.drop 220).take 32), aB 0 (zB 32)]) := rfl
  have hw : ∀ k, k < 32 → ((bs.drop 220).take 32).getD k 0 = bs.getD (220 + k) 0 := fun k hk => iA hk
  have hsh := pH bs 216
  generalize ((bs.drop 220).take 32) = sw at l hb hx hy hw
  refine go ?_
  refine brY ?_ (h := rfl)
  refine go ?_
  refine aX (Nat × B8 × BitVec 32) (fun y => [(0, .slice 0 [] 0 288 none), (2, .ptr 1 []), (4, .ptr 2 []), (5, .i64 (6 : Nat)), (6, .slice 0 [] 216 36 none), (7, .i64 y.1)]) (fun y => [(0, some ⟨.row .cell, .u8s bs, false⟩), (1, some ⟨tNd, iO, true⟩), (2, some ⟨tNd, (D.node [aB (u4G bs 0) ((bs.drop 4).take 32), aB (u4G bs 36) ((bs.drop 40).take 32), aB (u4G bs 72) ((bs.drop 76).take 32), aB (u4G bs 108) ((bs.drop 112).take 32), aB (u4G bs 144) ((bs.drop 148).take 32), aB (u4G bs 180) ((bs.drop 184).take 32), aB y.2.2 y.2.1, aB 0 (zB 32)]), true⟩)]) 3
   (fun y => y.1 ≤ 32 ∧ y.2.1 = sw.take y.1 ++ List.replicate (32 - y.1) 0 ∧ y.2.2 = u4G bs 216) (fun y => 32 - y.1) (0, zB 32, shG bs 216) [0, 1, 2] ⟨Nat.zero_le _, rfl, hsh⟩ aK ?_
  ·rintro ⟨k, s, a⟩ hI
   obtain ⟨hk, hs, ha⟩ := hI
   have hk : k ≤ 32 := hk
   have hs : s = sw.take k ++ List.replicate (32 - k) 0 := hs
   have ha : a = u4G bs 216 := ha
   have hsl : s.length = 32 := by rw [hs, List.length_append, List.length_take, List.length_replicate]; omega
   refine go ?_
   refine Br.split (fun hh => ?_) (fun hh => ?_)
   ·have hk : k < 32 := by have := of_decide_eq_true hh; omega
    have hn : s.set k (bs.getD (216 + (4 + k)) 0) = sw.take (k + 1) ++ List.replicate (32 - (k + 1)) 0 := by rw [hs]; exact fI l hk (by rw [hw k hk]; congr 1; omega)
    clear hh hs hw hx hy hb hall
    refine go ?_
    refine bB (k + 1, s.set k (bs.getD (216 + (4 + k)) 0), a) [0, 1, 2] aK (h1 := ⟨hk, hn, by assumption⟩) (h2 := by show 32 - (k + 1) < 32 - k; omega)
   ·obtain rfl : k = 32 := by have := of_decide_eq_false hh; omega
    rw [iB l] at hs
    subst hs
    clear hh hk
    rw [← ha] at hb hx hy
    refine go ?_
    by_cases qa : a = 0
    ·subst qa
     by_cases qs : s = zB 32
     ·subst qs
      refine gob ?_
      refine bB (7, (D.node [aB (u4G bs 0) ((bs.drop 4).take 32), aB (u4G bs 36) ((bs.drop 40).take 32), aB (u4G bs 72) ((bs.drop 76).take 32), aB (u4G bs 108) ((bs.drop 112).take 32), aB (u4G bs 144) ((bs.drop 148).take 32), aB (u4G bs 180) ((bs.drop 184).take 32), aB 0 (zB 32), aB 0 (zB 32)])) [0, 1, 2] aK (h1 := ⟨Nat.le_of_ble_eq_true rfl, hy.symm, dQ (R := R) ⟨hall, by rw [hb]; rfl⟩⟩) (h2 := (by decide : 8 - 7 < 8 - 6))
     ·have hx := hx (by rw [decide_eq_true rfl, decide_eq_false qs]; rfl)
      subst hx
      refine gob ?_
      refine brY ?_ (h := by show (!((aB 0 s).eqb (aB 0 (zB 32)))) = true; rw [dJ, decide_eq_false qs, Bool.and_false]; rfl)
      refine gob ?_
      refine aI [0]
    ·repeat first | refine go1 ?_ | refine Br.no (decide_eq_false qa) ?_ | refine Br.no rfl ?_
     refine bB (7, (D.node [aB (u4G bs 0) ((bs.drop 4).take 32), aB (u4G bs 36) ((bs.drop 40).take 32), aB (u4G bs 72) ((bs.drop 76).take 32), aB (u4G bs 108) ((bs.drop 112).take 32), aB (u4G bs 144) ((bs.drop 148).take 32), aB (u4G bs 180) ((bs.drop 184).take 32), aB a s, aB 0 (zB 32)])) [0, 1, 2] aK (h1 := ⟨Nat.le_of_ble_eq_true rfl, hy.symm, dQ (R := R) ⟨hall, by rw [hb, decide_eq_false qa]; rfl⟩⟩) (h2 := (by decide : 8 - 7 < 8 - 6))
 ·subst hd
  have l : ((bs.drop 256).take 32).length = 32 := by rw [List.length_take, List.length_drop]; omega
  have hb : lJ bs (36 * 7) = (decide (u4G bs 252 = 0) && !decide (((bs.drop 256).take 32) = zB 32)) := rfl
  have hx := cR (bs := bs) (i := 7) (by decide)
  rw [hb, hR] at hx
  have hy : gY bs 8 = (D.node [aB (u4G bs 0) ((bs.drop 4).take 32), aB (u4G bs 36) ((bs.drop 40).take 32), aB (u4G bs 72) ((bs.drop 76).take 32), aB (u4G bs 108) ((bs.drop 112).take 32), aB (u4G bs 144) ((bs.drop 148).take 32), aB (u4G bs 180) ((bs.drop 184).take 32), aB (u4G bs 216) ((bs.drop 220).take 32), aB (u4G bs 252) ((bs.drop 256).take 32)]) := rfl
  have hw : ∀ k, k < 32 → ((bs.drop 256).take 32).getD k 0 = bs.getD (256 + k) 0 := fun k hk => iA hk
  have hsh := pH bs 252
  generalize ((bs.drop 256).take 32) = sw at l hb hx hy hw
  refine go ?_
  refine brY ?_ (h := rfl)
  refine go ?_
  refine aX (Nat × B8 × BitVec 32) (fun y => [(0, .slice 0 [] 0 288 none), (2, .ptr 1 []), (4, .ptr 2 []), (5, .i64 (7 : Nat)), (6, .slice 0 [] 252 36 none), (7, .i64 y.1)]) (fun y => [(0, some ⟨.row .cell, .u8s bs, false⟩), (1, some ⟨tNd, iO, true⟩), (2, some ⟨tNd, (D.node [aB (u4G bs 0) ((bs.drop 4).take 32), aB (u4G bs 36) ((bs.drop 40).take 32), aB (u4G bs 72) ((bs.drop 76).take 32), aB (u4G bs 108) ((bs.drop 112).take 32), aB (u4G bs 144) ((bs.drop 148).take 32), aB (u4G bs 180) ((bs.drop 184).take 32), aB (u4G bs 216) ((bs.drop 220).take 32), aB y.2.2 y.2.1]), true⟩)]) 3
   (fun y => y.1 ≤ 32 ∧ y.2.1 = sw.take y.1 ++ List.replicate (32 - y.1) 0 ∧ y.2.2 = u4G bs 252) (fun y => 32 - y.1) (0, zB 32, shG bs 252) [0, 1, 2] ⟨Nat.zero_le _, rfl, hsh⟩ aK ?_
  ·rintro ⟨k, s, a⟩ hI
   obtain ⟨hk, hs, ha⟩ := hI
   have hk : k ≤ 32 := hk
   have hs : s = sw.take k ++ List.replicate (32 - k) 0 := hs
   have ha : a = u4G bs 252 := ha
   have hsl : s.length = 32 := by rw [hs, List.length_append, List.length_take, List.length_replicate]; omega
   refine go ?_
   refine Br.split (fun hh => ?_) (fun hh => ?_)
   ·have hk : k < 32 := by have := of_decide_eq_true hh; omega
    have hn : s.set k (bs.getD (252 + (4 + k)) 0) = sw.take (k + 1) ++ List.replicate (32 - (k + 1)) 0 := by rw [hs]; exact fI l hk (by rw [hw k hk]; congr 1; omega)
    clear hh hs hw hx hy hb hall
    refine go ?_
    refine bB (k + 1, s.set k (bs.getD (252 + (4 + k)) 0), a) [0, 1, 2] aK (h1 := ⟨hk, hn, by assumption⟩) (h2 := by show 32 - (k + 1) < 32 - k; omega)
   ·obtain rfl : k = 32 := by have := of_decide_eq_false hh; omega
    rw [iB l] at hs
    subst hs
    clear hh hk
    rw [← ha] at hb hx hy
    refine go ?_
    by_cases qa : a = 0
    ·subst qa
     by_cases qs : s = zB 32
     ·subst qs
      refine gob ?_
      refine bB (8, (D.node [aB (u4G bs 0) ((bs.drop 4).take 32), aB (u4G bs 36) ((bs.drop 40).take 32), aB (u4G bs 72) ((bs.drop 76).take 32), aB (u4G bs 108) ((bs.drop 112).take 32), aB (u4G bs 144) ((bs.drop 148).take 32), aB (u4G bs 180) ((bs.drop 184).take 32), aB (u4G bs 216) ((bs.drop 220).take 32), aB 0 (zB 32)])) [0, 1, 2] aK (h1 := ⟨Nat.le_of_ble_eq_true rfl, hy.symm, dQ (R := R) ⟨hall, by rw [hb]; rfl⟩⟩) (h2 := (by decide : 8 - 8 < 8 - 7))
     ·have hx := hx (by rw [decide_eq_true rfl, decide_eq_false qs]; rfl)
      subst hx
      refine gob ?_
      refine brY ?_ (h := by show (!((aB 0 s).eqb (aB 0 (zB 32)))) = true; rw [dJ, decide_eq_false qs, Bool.and_false]; rfl)
      refine gob ?_
      refine aI [0]
    ·repeat first | refine go1 ?_ | refine Br.no (decide_eq_false qa) ?_ | refine Br.no rfl ?_
     refine bB (8, (D.node [aB (u4G bs 0) ((bs.drop 4).take 32), aB (u4G bs 36) ((bs.drop 40).take 32), aB (u4G bs 72) ((bs.drop 76).take 32), aB (u4G bs 108) ((bs.drop 112).take 32), aB (u4G bs 144) ((bs.drop 148).take 32), aB (u4G bs 180) ((bs.drop 184).take 32), aB (u4G bs 216) ((bs.drop 220).take 32), aB a s])) [0, 1, 2] aK (h1 := ⟨Nat.le_of_ble_eq_true rfl, hy.symm, dQ (R := R) ⟨hall, by rw [hb, decide_eq_false qa]; rfl⟩⟩) (h2 := (by decide : 8 - 8 < 8 - 7))
 ·subst hd
  have hx := aD9 hall
  rw [hR] at hx
  subst hx
  refine gob ?_
  refine aI [0]
section
variable (k1 k2 : List B8) (h1 : Rows 15 16 k1) (h2 : Rows 15 16 k2) (s : BitVec 64) (bs : B8) (cap : Option Nat) (m : Nat) (hm : bs.length = 512 * (m + 1)) (hm2 : m < 128) (O : B8) (hO : O = ovI (iH k1) k2 bs 0 s (m + 1))
include k1 k2 h1 h2 s bs cap m hm hm2 O hO
set_option maxHeartbeats 400000 in
theorem xJ :
  AC Tryz.prog 91 [xR k1 k2, .u64 s, .slice 0 [] 0 bs.length cap, .bool true] 1 ((0, some ⟨.row .cell, .u8s bs, false⟩) :: gB)
   ⟨.tup [.slice 1 [] 0 (512 * (m + 1)) none, .i64 0], [], [(.row .cell, .u8s O)]⟩ := by
 obtain ⟨V, hV⟩ : ∃ V : Nat → B8, V = fun j => ovI (iH k1) k2 bs 0 s j := ⟨_, rfl⟩
 obtain ⟨G, hG⟩ : ∃ G : Nat → B8, G = fun j => fZ (fun k => wR (iH k1) (twN (fS k2 (nI (s + BitVec.ofNat 64 j) 8) 14) k) (eB bs (0 + 512 * j + 16 * k))) 32 := ⟨_, rfl⟩
 have hf : ∀ p : B8, p.length = 16 → (iH k1 p).length = 16 := fun p hp => by rw [iH, aJ, dC k1 p hp]
 have hV0 : V 0 = [] := by rw [hV]; rfl
 have hVs : ∀ j, V (j + 1) = V j ++ G j := fun j => by rw [hV, hG]; exact aDT _ k2 bs s j
 have hVl : ∀ j, j ≤ m + 1 → (V j).length = 512 * j := fun j hj => by rw [hV]; exact eU hf k2 s (m := m + 1) (by omega) j hj
 have hGl : ∀ j, j ≤ m → (G j).length = 512 := fun j hj => by rw [hG]; exact eY (fun k hk => e5 hf (dE (by omega)))
 have hsec : ∀ j, j ≤ m → ∀ c, AC Tryz.prog 125 [xR k1 k2, .u64 (s + BitVec.ofNat 64 j), .slice 0 [] (0 + 512 * j) (512 * j + 512 - 512 * j) c, .bool true] 1 ((0, some ⟨.row .cell, .u8s bs, false⟩) :: gB)
   ⟨.slice 1 [] 0 512 none, [], [(.row .cell, .u8s (G j))]⟩ := fun j hj c => aF5 k1 k2 h1 h2 bs _ _ c _ (by omega) (by omega) (by omega) _ (by rw [hG])
 have hO : O = V (m + 1) := by rw [hO, hV]
 clear hV hG
 subst hO
 have hrem : Int.tmod ((bs.length : Nat) : Int) 512 = 0 := by
  rw [show Int.tmod ((bs.length : Nat) : Int) 512 = ((bs.length % 512 : Nat) : Int) from (Int.ofNat_tmod bs.length 512).symm]
  omega
 refine cN tab mix Tryz.func91 rfl (by kernel_rfl) (by kernel_rfl) (by kernel_rfl) {} ?_
 refine EffG.mk (And.intro (t9 h1 h2) ?_)
 repeat first | rw [hrem] | refine st1 ?_
 refine Br.no rfl ?_
 refine stN ?_
 refine Br.no rfl ?_
 refine stN ?_
 refine Br.no rfl ?_
 refine stN ?_
 refine Br.no (decide_eq_false (by omega)) ?_
 refine stN ?_
 refine aX Nat (fun j => [(1, .u64 s), (2, .slice 0 [] 0 bs.length cap), (3, .bool true), (4, .ptr 1 []), (10, nD 2 512 j), (11, .i64 (512 * j : Nat))])
  (fun j => [(0, some ⟨.row .cell, .u8s bs, false⟩), (1, some ⟨tR, xR k1 k2, true⟩), (gid 0, some ⟨jG, .u8s boxL, false⟩)] ++ nM 2 (.row .cell) (.u8s (V j)) j) 3 (fun j => j ≤ m + 1) (fun j => m + 1 - j) 0 [0, 1] (Nat.zero_le _) ?_ ?_
 ·exact aN rfl ⟨rfl, rfl, rfl, rfl, rfl, rfl, trivial⟩ ⟨⟨_, rfl, rfl, rfl, id⟩, ⟨_, rfl, rfl, (bV _ k1 k2).symm, id⟩, ⟨_, rfl, rfl, rfl, id⟩, trivial⟩ rfl
 intro j hj
 rcases j with _ | n
 ·refine stN ?_
  refine Br.split (fun h => ?_) (fun h => ?_)
  ·have hj : 0 ≤ m := by have := of_decide_eq_true h; omega
   have hs := hsec 0 hj
   have hg := hGl 0 hj
   have hv := hVs 0
   have hvl := hVl 0 (by omega)
   generalize G 0 = q at hs hg hv
   have q1 : Int.tdiv ((512 * 0 : Nat) : Int) 512 = ((0 : Nat) : Int) := by
    rw [show Int.tdiv ((512 * 0 : Nat) : Int) 512 = ((512 * 0 / 512 : Nat) : Int) from (Int.ofNat_tdiv (512 * 0) 512).symm, show 512 * 0 / 512 = 0 by omega]
   have q2 : BitVec.ofInt 64 ((0 : Nat) : Int) = BitVec.ofNat 64 0 := BitVec.ofInt_natCast 64 _
   repeat first | rw [q1] | rw [q2] | refine st1 ?_
   refine bF (hs _) [0] rfl (congrArg (fun d => [d, D.u64 (s + BitVec.ofNat 64 0), D.slice 0 [] (0 + 512 * 0) (512 * 0 + 512 - 512 * 0) _, D.bool true]) (bV _ k1 k2).symm) ⟨⟨_, rfl, rfl, rfl, id⟩, ⟨_, rfl, rfl, rfl, id⟩, trivial⟩ rfl rfl ?_
   refine stN ?_
   refine ⟨1, ?_⟩
   refine stN ?_
   refine bQ 1 [0, 1, 4] ?_ ?_ ?_
   ·omega
   ·omega
   ·refine aN rfl ⟨rfl, rfl, rfl, rfl, rfl, rfl, trivial⟩ ⟨⟨_, rfl, rfl, rfl, id⟩, ⟨_, rfl, rfl, (bV _ k1 k2).symm, id⟩, ⟨_, rfl, rfl, rfl, id⟩, ⟨_, rfl, rfl, congrArg D.u8s ?_, id⟩, trivial⟩ rfl
    rw [hv, hV0]
    show [] ++ List.take 512 (List.drop 0 q) = [] ++ q
    rw [List.drop_zero, List.take_of_length_le (by omega)]
  ·have := of_decide_eq_false h; omega
 ·refine stN ?_
  refine Br.split (fun h => ?_) (fun h => ?_)
  ·have hj : (n + 1) ≤ m := by have := of_decide_eq_true h; omega
   have hs := hsec (n + 1) hj
   have hg := hGl (n + 1) hj
   have hv := hVs (n + 1)
   have hvl := hVl (n + 1) (by omega)
   generalize G (n + 1) = q at hs hg hv
   have q1 : Int.tdiv ((512 * (n + 1) : Nat) : Int) 512 = (((n + 1) : Nat) : Int) := by
    rw [show Int.tdiv ((512 * (n + 1) : Nat) : Int) 512 = ((512 * (n + 1) / 512 : Nat) : Int) from (Int.ofNat_tdiv (512 * (n + 1)) 512).symm, show 512 * (n + 1) / 512 = (n + 1) by omega]
   have q2 : BitVec.ofInt 64 (((n + 1) : Nat) : Int) = BitVec.ofNat 64 (n + 1) := BitVec.ofInt_natCast 64 _
   repeat first | rw [q1] | rw [q2] | refine st1 ?_
   refine bF (hs _) [0] rfl (congrArg (fun d => [d, D.u64 (s + BitVec.ofNat 64 (n + 1)), D.slice 0 [] (0 + 512 * (n + 1)) (512 * (n + 1) + 512 - 512 * (n + 1)) _, D.bool true]) (bV _ k1 k2).symm) ⟨⟨_, rfl, rfl, rfl, id⟩, ⟨_, rfl, rfl, rfl, id⟩, trivial⟩ rfl rfl ?_
   refine stN ?_
   refine ⟨0, ?_⟩
   refine stN ?_
   refine bQ (n + 2) [0, 1, 4] ?_ ?_ ?_
   ·omega
   ·omega
   ·refine aN rfl ⟨rfl, rfl, rfl, rfl, cF rfl ?_ rfl, rfl, trivial⟩ ⟨⟨_, rfl, rfl, rfl, id⟩, ⟨_, rfl, rfl, (bV _ k1 k2).symm, id⟩, ⟨_, rfl, rfl, rfl, id⟩, ⟨_, rfl, rfl, congrArg D.u8s ?_, id⟩, trivial⟩ rfl
    ·show 512 * (n + 1) + 512 = 512 * (n + 1 + 1)
     omega
    ·rw [hv]
     show List.take (512 * (n + 1)) (List.drop 0 (V (n + 1))) ++ List.take 512 (List.drop 0 q) = V (n + 1) ++ q
     rw [List.drop_zero, List.drop_zero, List.take_of_length_le (by omega), List.take_of_length_le (by omega)]
  ·have hn : n = m := by have := of_decide_eq_false h; omega
   subst hn
   refine stN ?_
   refine gC [0, 2] ⟨rfl, rfl⟩ rfl ⟨⟨_, rfl, rfl, rfl, id⟩, ⟨_, rfl, rfl, rfl, id⟩, ⟨_, rfl, rfl, rfl, id⟩, trivial⟩ rfl
theorem uZ :
  AC Tryz.prog 47 [xR k1 k2, .u64 s, .slice 0 [] 0 bs.length cap] 1 ((0, some ⟨.row .cell, .u8s bs, false⟩) :: gB) ⟨.tup [.slice 1 [] 0 (512 * (m + 1)) none, .i64 0], [], [(.row .cell, .u8s O)]⟩ := by
 refine cN tab mix Tryz.func47 rfl (by kernel_rfl) (by kernel_rfl) (by kernel_rfl) {} ?_
 refine EffG.mk (And.intro (t9 h1 h2) ?_)
 refine stN ?_
 refine bF (xJ k1 k2 h1 h2 s bs cap m hm hm2 O hO) [0] rfl (congrArg (fun d => [d, D.u64 s, .slice 0 [] 0 bs.length cap, D.bool true]) (bV _ k1 k2).symm) ⟨⟨_, rfl, rfl, rfl, id⟩, ⟨_, rfl, rfl, rfl, id⟩, trivial⟩ rfl rfl ?_
 refine stN ?_
 refine gC [0, 2] ⟨rfl, rfl⟩ rfl ⟨⟨_, rfl, rfl, rfl, id⟩, ⟨_, rfl, rfl, rfl, id⟩, ⟨_, rfl, rfl, rfl, id⟩, trivial⟩ rfl
end
section
variable (k1 k2 : List B8) (h1 : Rows 15 16 k1) (h2 : Rows 15 16 k2) (q p : Nat) (hp1 : 1 ≤ p) (hp2 : p ≤ 2) (B : B8)
include k1 k2 h1 h2 q p hp1 hp2 B
theorem sD (cap : Nat) (hB : B.length = 512 * p) :
  AC Tryz.prog 65 [xR k1 k2, .u64 (BitVec.ofNat 64 q), .slice 0 [] 0 (512 * p) (some cap)] 1 ((0, some ⟨.row .cell, .u8s B, false⟩) :: gB)
   ⟨.tup [.slice 1 [] 0 (512 * p) none, .i64 0], [], [(.row .cell, .u8s (eD k1 k2 B 0 q p))]⟩ := by
 obtain ⟨m, rfl⟩ : ∃ m, p = m + 1 := ⟨p - 1, by omega⟩
 have h := w8 k1 k2 h1 h2 (BitVec.ofNat 64 q) B cap m hB (by omega) _ rfl
 rw [hB] at h
 exact h
theorem aF9 (cap : Option Nat) (hB : B.length = 512 * p) :
  AC Tryz.prog 47 [xR k1 k2, .u64 (BitVec.ofNat 64 q), .slice 0 [] 0 (512 * p) cap] 1 ((0, some ⟨.row .cell, .u8s B, false⟩) :: gB)
   ⟨.tup [.slice 1 [] 0 (512 * p) none, .i64 0], [], [(.row .cell, .u8s (aA6 k1 k2 B q p))]⟩ := by
 obtain ⟨m, rfl⟩ : ∃ m, p = m + 1 := ⟨p - 1, by omega⟩
 have h := uZ k1 k2 h1 h2 (BitVec.ofNat 64 q) B cap m hB (by omega) _ rfl
 rw [hB] at h
 exact h
end
theorem aFc (c p : Nat) (K : B8) (hK : K.length = 32) :
  AC Tryz.prog 15 [aCZ c p, .u8s K] 0 gBK ⟨eC c p (bO (fH K t7)) (bO (fH K t6)) (fH K qG), [], []⟩ := by
 have l1 := sI K t7 hK (by decide)
 have l2 := sI K t6 hK (by decide)
 have l3 := sI K qG hK (by decide)
 have y1 := aW K t7
 have y2 := aW K t6
 have y3 := aW K qG
 generalize fH K t7 = z1 at l1 y1 ⊢
 generalize fH K t6 = z2 at l2 y2 ⊢
 generalize fH K qG = z3 at l3 y3 ⊢
 have hx := aJM z1 z2 y1 y2
 have r1 := cK z1 y1
 have r2 := cK z2 y2
 generalize bO z1 = k1 at hx r1 ⊢
 generalize bO z2 = k2 at hx r2 ⊢
 have hT := aM (c := c) (p := p) r1 r2 y3
 have hX := t9 r1 r2
 refine acA tab mix Tryz.func15 {} ?_
 refine gob ?_
 refine aA l1 [] ?_
 refine aA l2 [] ?_
 refine aIT hx [] (xR k1 k2) ?_ (hr := bV _ k1 k2)
 refine gob ?_
 refine aA l3 [] ?_
 refine EffG.mk (And.intro ?_ ?_)
 ·(repeat' (first | assumption | exact trivial | refine And.intro ?_ ?_)) <;> first | rfl | omega
 refine gob ?_
 refine EffG.mk (And.intro ⟨trivial, hT⟩ ?_)
 refine gob ?_
 refine aI [] (h1 := ?_)
 simp only [D.ren, D.rens, aC]
 rfl
section
variable (c most p : Nat) (k1 k2 : List B8) (tag : B8)
include c most p k1 k2 tag
section
variable (n : BitVec 32) (q : Nat) (hq : q = 8 + n.toNat * p) (h1 : Rows 15 16 k1) (h2 : Rows 15 16 k2) (ht : tag.length = 32) (hc : 1 ≤ c) (hc2 : c ≤ 64) (hp1 : 1 ≤ p) (hp2 : p ≤ 2) (hn : n.toNat ≤ 65535) (S S2 B : B8) (hB : B.length = 512 * p) (rl : List RLo) (st cap : Nat) (hS : S.length ≤ most) (hm : most ≤ 16777216)
include n q hq h1 h2 ht hc hc2 hp1 hp2 hn S S2 B hB rl st cap hS hm
theorem jW (hl : rl.length < 1000) (hp : 512 * q ≤ S.length) (hf : 512 * q + 512 * p ≤ most) (hst : st < 100000) :
  AC Tryz.prog 25 [eC c p k1 k2 tag, bU most S S2 (aT 1 rl) st, .u32 n, .slice 0 [] 0 (512 * p) (some cap)] 2 ((0, some ⟨.row .cell, .u8s B, false⟩) :: (eG 1 rl ++ gBK))
   ⟨.tup [bU most (aV S (eD k1 k2 B 0 q p) (512 * q)) S2 (.slice 2 [] 0 (rl.length + p) none) (st + 1), aB (n + 1) (bY tag (n + 1) (eD k1 k2 B 0 q p)), .i64 0], [], [(.row jR, fL (rl ++ rlP (aV S (eD k1 k2 B 0 q p) (512 * q)) q p))]⟩ := by
 have hT := aM (c := c) (p := p) h1 h2 ht
 have hz := cA c p k1 k2 tag h1 h2 ht hp2
 have hse := g9 c p k1 k2 tag n q hq h1 h2 ht hc hc2 hp1 hp2 hn
 have hsl := sD k1 k2 h1 h2 q p hp1 hp2 B cap hB
 have hne : (!decide (((512 * p : Nat) : Int) = ((512 * p : Nat) : Int))) = false := by rw [decide_eq_true rfl]; rfl
 have hQl : (eD k1 k2 B 0 q p).length = 512 * p := cL k2 (by omega)
 generalize eD k1 k2 B 0 q p = Q at hsl hQl ⊢
 have hlf := nH tag Q (n + 1) (512 * p) none ht hQl (by omega) (by omega)
 have hy := aR tag (n + 1) Q
 generalize bY tag (n + 1) Q = y at hlf hy ⊢
 have h0 := fun hl0 => aDB c most p k1 k2 tag n q hq h1 h2 ht hc hc2 hp1 hp2 hn S S2 Q st none hS hm hp hQl hf hl0
 have h1c := fun l0 rl hl => aDA c most p k1 k2 tag n q hq h1 h2 ht hc hc2 hp1 hp2 hn S S2 Q l0 rl hl st none hS hm hp hQl hf hst
 have h0 := h0 hst
 generalize aV S Q (512 * q) = T at h0 h1c ⊢
 generalize rlP T q p = rp at h0 h1c ⊢
 clear hq
 generalize BitVec.ofNat 64 q = qw at hse hsl
 cases rl with
 |nil =>
  rw [show ([] : List RLo).length + p = p from Nat.zero_add p, List.nil_append]
  refine acA tab mix Tryz.func25 {} ?_
  refine EffG.mk (And.intro hT ?_)
  refine go ?_
  refine brN ?_ (decide_eq_false (show ¬ 65535 < n.toNat by omega))
  refine gob ?_
  refine bK hz [] ?_ (hargs := by simp only [D.rens, D.ren, aC]; rfl)
  repeat first | refine go1 ?_ | refine Br.no rfl ?_ | refine Br.yes rfl ?_ | refine Br.no hne ?_
  refine aA hse [] ?_ (hargs := by simp only [D.rens, D.ren, aC]; rfl)
  refine aA hsl [0] ?_ (hargs := by simp only [D.rens, D.ren, aC]; rfl)
  refine aA h0 [6] ?_ (hargs := by simp only [D.rens, D.ren, aC]; rfl)
  refine aA hlf [6] ?_
  refine aI [0, 1, 7]
 |cons l0 rl =>
  have h1c := h1c l0 rl (by simp only [List.length_cons] at hl; omega)
  refine acA tab mix Tryz.func25 {} ?_
  refine EffG.mk (And.intro hT ?_)
  refine go ?_
  refine brN ?_ (decide_eq_false (show ¬ 65535 < n.toNat by omega))
  refine gob ?_
  refine bK hz [] ?_ (hargs := by simp only [D.rens, D.ren, aC]; rfl)
  repeat first | refine go1 ?_ | refine Br.no rfl ?_ | refine Br.yes rfl ?_ | refine Br.no hne ?_
  refine aA hse [] ?_ (hargs := by simp only [D.rens, D.ren, aC]; rfl)
  refine aA hsl [0] ?_ (hargs := by simp only [D.rens, D.ren, aC]; rfl)
  refine aA h1c [6, 1] ?_ (hargs := by simp only [D.rens, D.ren, aC]; rfl)
  refine aA hlf [6] ?_
  refine aI [0, 1, 7]
theorem uX (hp : S.length < 512 * q) :
  AC Tryz.prog 25 [eC c p k1 k2 tag, bU most S S2 (aT 1 rl) st, .u32 n, .slice 0 [] 0 (512 * p) (some cap)] 2 ((0, some ⟨.row .cell, .u8s B, false⟩) :: gBK)
   ⟨.tup [bU most S S2 (aT 1 rl) st, aB 0 (List.replicate 32 0), .i64 40], [], []⟩ := by
 have hT := aM (c := c) (p := p) h1 h2 ht
 have hz := cA c p k1 k2 tag h1 h2 ht hp2
 have hse := g9 c p k1 k2 tag n q hq h1 h2 ht hc hc2 hp1 hp2 hn
 have hsl := sD k1 k2 h1 h2 q p hp1 hp2 B cap hB
 have hne : (!decide (((512 * p : Nat) : Int) = ((512 * p : Nat) : Int))) = false := by rw [decide_eq_true rfl]; rfl
 have hQl : (eD k1 k2 B 0 q p).length = 512 * p := cL k2 (by omega)
 generalize eD k1 k2 B 0 q p = Q at hsl hQl
 have hlf := nH tag Q (n + 1) (512 * p) none ht hQl (by omega) (by omega)
 have hy := aR tag (n + 1) Q
 generalize bY tag (n + 1) Q = y at hlf hy
 have hly := aCy c most p k1 k2 tag n q hq h1 h2 ht hc hc2 hp1 hp2 hn S S2 Q (aT 1 rl) (bD 1 rl) st none hS hm hp hQl
 clear hq
 generalize BitVec.ofNat 64 q = qw at hse hsl
 cases rl
 all_goals
  refine acA tab mix Tryz.func25 {} ?_
  refine EffG.mk (And.intro hT ?_)
  refine go ?_
  refine brN ?_ (decide_eq_false (show ¬ 65535 < n.toNat by omega))
  refine gob ?_
  refine bK hz [] ?_ (hargs := by simp only [D.rens, D.ren, aC]; rfl)
  repeat first | refine go1 ?_ | refine Br.no rfl ?_ | refine Br.yes rfl ?_ | refine Br.no hne ?_
  refine aA hse [] ?_ (hargs := by simp only [D.rens, D.ren, aC]; rfl)
  refine aA hsl [0] ?_ (hargs := by simp only [D.rens, D.ren, aC]; rfl)
  refine aA hly [6, 1] ?_ (hargs := by simp only [D.rens, D.ren, aC]; rfl)
  refine aI [0, 1]
theorem uY (hp : 512 * q ≤ S.length) (hf : most < 512 * q + 512 * p) :
  AC Tryz.prog 25 [eC c p k1 k2 tag, bU most S S2 (aT 1 rl) st, .u32 n, .slice 0 [] 0 (512 * p) (some cap)] 2 ((0, some ⟨.row .cell, .u8s B, false⟩) :: gBK)
   ⟨.tup [bU most S S2 (aT 1 rl) st, aB 0 (List.replicate 32 0), .i64 21], [], []⟩ := by
 have hT := aM (c := c) (p := p) h1 h2 ht
 have hz := cA c p k1 k2 tag h1 h2 ht hp2
 have hse := g9 c p k1 k2 tag n q hq h1 h2 ht hc hc2 hp1 hp2 hn
 have hsl := sD k1 k2 h1 h2 q p hp1 hp2 B cap hB
 have hne : (!decide (((512 * p : Nat) : Int) = ((512 * p : Nat) : Int))) = false := by rw [decide_eq_true rfl]; rfl
 have hQl : (eD k1 k2 B 0 q p).length = 512 * p := cL k2 (by omega)
 generalize eD k1 k2 B 0 q p = Q at hsl hQl
 have hlf := nH tag Q (n + 1) (512 * p) none ht hQl (by omega) (by omega)
 have hy := aR tag (n + 1) Q
 generalize bY tag (n + 1) Q = y at hlf hy
 have hly := aCz c most p k1 k2 tag n q hq h1 h2 ht hc hc2 hp1 hp2 hn S S2 Q (aT 1 rl) (bD 1 rl) st none hS hm hp hf hQl
 clear hq
 generalize BitVec.ofNat 64 q = qw at hse hsl
 cases rl
 all_goals
  refine acA tab mix Tryz.func25 {} ?_
  refine EffG.mk (And.intro hT ?_)
  refine go ?_
  refine brN ?_ (decide_eq_false (show ¬ 65535 < n.toNat by omega))
  refine gob ?_
  refine bK hz [] ?_ (hargs := by simp only [D.rens, D.ren, aC]; rfl)
  repeat first | refine go1 ?_ | refine Br.no rfl ?_ | refine Br.yes rfl ?_ | refine Br.no hne ?_
  refine aA hse [] ?_ (hargs := by simp only [D.rens, D.ren, aC]; rfl)
  refine aA hsl [0] ?_ (hargs := by simp only [D.rens, D.ren, aC]; rfl)
  refine aA hly [6, 1] ?_ (hargs := by simp only [D.rens, D.ren, aC]; rfl)
  refine aI [0, 1]
end
section
variable (n : BitVec 32)
include n
theorem z9 (h1 : Rows 15 16 k1) (h2 : Rows 15 16 k2) (ht : tag.length = 32) (hp1 : 1 ≤ p) (hp2 : p ≤ 2) (S S2 : B8) (k : Nat) (x : Option Nat) (hx : x = none → k = 0) (h : 65535 < n.toNat ∨ k ≠ 512 * p) (hk : k < 9223372036854775808) (rl : List RLo) (st : Nat) :
  AC Tryz.prog 25 [eC c p k1 k2 tag, bU most S S2 (aT 1 rl) st, .u32 n, slD 0 k x] 2 [] ⟨.tup [bU most S S2 (aT 1 rl) st, aB 0 (List.replicate 32 0), .i64 2], [], []⟩ := by
 have hT := aM (c := c) (p := p) h1 h2 ht
 have hz := cA c p k1 k2 tag h1 h2 ht hp2
 by_cases hn : 65535 < n.toNat
 ·cases rl <;> cases x
  all_goals
   refine acA tab mix Tryz.func25 {} ?_
   refine EffG.mk (And.intro hT ?_)
   refine go ?_
   refine brY ?_ (h := decide_eq_true hn)
   refine gob ?_
   refine aI [0, 1]
 ·have hk2 : k ≠ 512 * p := by omega
  have hne : (!decide (((k : Nat) : Int) = ((512 * p : Nat) : Int))) = true := by rw [decide_eq_false (by omega)]; rfl
  have hnz : (!decide ((0 : Int) = ((512 * p : Nat) : Int))) = true := by rw [decide_eq_false (by omega)]; rfl
  cases rl <;> cases x
  all_goals
   refine acA tab mix Tryz.func25 {} ?_
   refine EffG.mk (And.intro hT ?_)
   refine go ?_
   refine brN ?_ (h := decide_eq_false hn)
   refine gob ?_
   refine bK hz [] ?_ (hargs := by simp only [D.rens, D.ren, aC]; rfl)
   repeat first | refine go1 ?_ | refine Br.no rfl ?_ | refine Br.yes rfl ?_ | refine Br.yes hne ?_ | refine Br.yes hnz ?_
   refine aI [0, 1]
section
variable (q : Nat) (hq : q = 8 + n.toNat * p) (h1 : Rows 15 16 k1) (h2 : Rows 15 16 k2) (ht : tag.length = 32) (hc : 1 ≤ c) (hc2 : c ≤ 64) (hp1 : 1 ≤ p) (hp2 : p ≤ 2) (hn : n.toNat ≤ 65535) (a0 a1 a2 a3 a4 a5 a6 a7 : BitVec 32) (s0 s1 s2 s3 s4 s5 s6 s7 : B8) (g0 : s0.length = 32) (g1 : s1.length = 32) (g2 : s2.length = 32) (g3 : s3.length = 32) (g4 : s4.length = 32) (g5 : s5.length = 32) (g6 : s6.length = 32) (g7 : s7.length = 32) (S S2 : B8) (rl : List RLo) (st : Nat) (hS : S.length ≤ most) (hm : most ≤ 16777216)
include q hq h1 h2 ht hc hc2 hp1 hp2 hn a0 a1 a2 a3 a4 a5 a6 a7 s0 s1 s2 s3 s4 s5 s6 s7 g0 g1 g2 g3 g4 g5 g6 g7 S S2 rl st hS hm
theorem jV (hl : rl.length < 1000) (hp : 512 * q ≤ S.length) (hf : 512 * q + 512 * p ≤ most) (hst : st < 100000) :
  AC Tryz.prog 27 [eC c p k1 k2 tag, bU most S S2 (aT 1 rl) st, .u32 n, eR a0 a1 a2 a3 a4 a5 a6 a7 s0 s1 s2 s3 s4 s5 s6 s7] 2 (eG 1 rl ++ [gK])
   ⟨.tup [bU most (aV S (cG p (bA a0 a1 a2 a3 a4 a5 a6 a7 s0 s1 s2 s3 s4 s5 s6 s7)) (512 * q)) S2 (.slice 2 [] 0 (rl.length + p) none) (st + 1), aB (n + 1) (dL (cG p (bA a0 a1 a2 a3 a4 a5 a6 a7 s0 s1 s2 s3 s4 s5 s6 s7))), .i64 0], [], [(.row jR, fL (rl ++ rlP (aV S (cG p (bA a0 a1 a2 a3 a4 a5 a6 a7 s0 s1 s2 s3 s4 s5 s6 s7)) (512 * q)) q p))]⟩ := by
 have hT := aM (c := c) (p := p) h1 h2 ht
 have hz := cA c p k1 k2 tag h1 h2 ht hp2
 have hnp := qN a0 a1 a2 a3 a4 a5 a6 a7 s0 s1 s2 s3 s4 s5 s6 s7 g0 g1 g2 g3 g4 g5 g6 g7
 have hNl : (bA a0 a1 a2 a3 a4 a5 a6 a7 s0 s1 s2 s3 s4 s5 s6 s7).length = 288 := by simp only [bA, List.length_append, aE g0, aE g1, aE g2, aE g3, aE g4, aE g5, aE g6, aE g7]
 have hPl : (cG p (bA a0 a1 a2 a3 a4 a5 a6 a7 s0 s1 s2 s3 s4 s5 s6 s7)).length = 512 * p := bM (by omega)
 have hpd := jX (bA a0 a1 a2 a3 a4 a5 a6 a7 s0 s1 s2 s3 s4 s5 s6 s7) 288 (512 * p) none hNl (by omega) (by omega)
 rw [show (bA a0 a1 a2 a3 a4 a5 a6 a7 s0 s1 s2 s3 s4 s5 s6 s7) ++ List.replicate (512 * p - 288) 0 = cG p (bA a0 a1 a2 a3 a4 a5 a6 a7 s0 s1 s2 s3 s4 s5 s6 s7) by rw [cG, hNl]] at hpd
 generalize cG p (bA a0 a1 a2 a3 a4 a5 a6 a7 s0 s1 s2 s3 s4 s5 s6 s7) = Q at hpd hPl ⊢
 generalize (bA a0 a1 a2 a3 a4 a5 a6 a7 s0 s1 s2 s3 s4 s5 s6 s7) = NB at hnp hpd hNl
 have hpg := kS Q (512 * p) none hPl (by omega) (by omega)
 rw [show dI (jL ++ Q) = dL Q from rfl] at hpg
 have hy := bE Q
 generalize dL Q = y at hpg hy ⊢
 have h := lT c most p k1 k2 tag n q hq h1 h2 ht hc hc2 hp1 hp2 hn S S2 Q rl st none y hy hS hm hPl hl hp hf hst
 generalize aV S Q (512 * q) = T at h ⊢
 generalize rlP T q p = rp at h ⊢
 clear hq
 cases rl
 all_goals
  refine acA tab mix Tryz.func27 {} ?_
  refine EffG.mk (And.intro hT ?_)
  refine gob ?_
  refine aA hnp [] ?_
  refine aA hz [] ?_ (hargs := by simp only [D.rens, D.ren, aC]; rfl)
  refine aA hpd [7] ?_
  refine aA hpg [8] ?_
  refine aA h [8, 1] ?_ (hargs := by simp only [D.rens, D.ren, aC]; rfl)
  refine aI [0, 1, 9]
theorem uV (hp : S.length < 512 * q) :
  AC Tryz.prog 27 [eC c p k1 k2 tag, bU most S S2 (aT 1 rl) st, .u32 n, eR a0 a1 a2 a3 a4 a5 a6 a7 s0 s1 s2 s3 s4 s5 s6 s7] 2 [gK]
   ⟨.tup [bU most S S2 (aT 1 rl) st, aB 0 (List.replicate 32 0), .i64 40], [], []⟩ := by
 have hT := aM (c := c) (p := p) h1 h2 ht
 have hz := cA c p k1 k2 tag h1 h2 ht hp2
 have hnp := qN a0 a1 a2 a3 a4 a5 a6 a7 s0 s1 s2 s3 s4 s5 s6 s7 g0 g1 g2 g3 g4 g5 g6 g7
 have hNl : (bA a0 a1 a2 a3 a4 a5 a6 a7 s0 s1 s2 s3 s4 s5 s6 s7).length = 288 := by simp only [bA, List.length_append, aE g0, aE g1, aE g2, aE g3, aE g4, aE g5, aE g6, aE g7]
 have hPl : (cG p (bA a0 a1 a2 a3 a4 a5 a6 a7 s0 s1 s2 s3 s4 s5 s6 s7)).length = 512 * p := bM (by omega)
 have hpd := jX (bA a0 a1 a2 a3 a4 a5 a6 a7 s0 s1 s2 s3 s4 s5 s6 s7) 288 (512 * p) none hNl (by omega) (by omega)
 rw [show (bA a0 a1 a2 a3 a4 a5 a6 a7 s0 s1 s2 s3 s4 s5 s6 s7) ++ List.replicate (512 * p - 288) 0 = cG p (bA a0 a1 a2 a3 a4 a5 a6 a7 s0 s1 s2 s3 s4 s5 s6 s7) by rw [cG, hNl]] at hpd
 generalize cG p (bA a0 a1 a2 a3 a4 a5 a6 a7 s0 s1 s2 s3 s4 s5 s6 s7) = Q at hpd hPl
 generalize (bA a0 a1 a2 a3 a4 a5 a6 a7 s0 s1 s2 s3 s4 s5 s6 s7) = NB at hnp hpd hNl
 have hpg := kS Q (512 * p) none hPl (by omega) (by omega)
 rw [show dI (jL ++ Q) = dL Q from rfl] at hpg
 have hy := bE Q
 generalize dL Q = y at hpg hy
 have h := lU c most p k1 k2 tag n q hq h1 h2 ht hc hc2 hp1 hp2 hn S S2 Q (aT 1 rl) (bD 1 rl) st none y hy hS hm hp hPl
 clear hq
 cases rl
 all_goals
  refine acA tab mix Tryz.func27 {} ?_
  refine EffG.mk (And.intro hT ?_)
  refine gob ?_
  refine aA hnp [] ?_
  refine aA hz [] ?_ (hargs := by simp only [D.rens, D.ren, aC]; rfl)
  refine aA hpd [7] ?_
  refine aA hpg [8] ?_
  refine aA h [8, 1] ?_ (hargs := by simp only [D.rens, D.ren, aC]; rfl)
  refine aI [0, 1]
theorem uW (hp : 512 * q ≤ S.length) (hf : most < 512 * q + 512 * p) :
  AC Tryz.prog 27 [eC c p k1 k2 tag, bU most S S2 (aT 1 rl) st, .u32 n, eR a0 a1 a2 a3 a4 a5 a6 a7 s0 s1 s2 s3 s4 s5 s6 s7] 2 [gK]
   ⟨.tup [bU most S S2 (aT 1 rl) st, aB 0 (List.replicate 32 0), .i64 21], [], []⟩ := by
 have hT := aM (c := c) (p := p) h1 h2 ht
 have hz := cA c p k1 k2 tag h1 h2 ht hp2
 have hnp := qN a0 a1 a2 a3 a4 a5 a6 a7 s0 s1 s2 s3 s4 s5 s6 s7 g0 g1 g2 g3 g4 g5 g6 g7
 have hNl : (bA a0 a1 a2 a3 a4 a5 a6 a7 s0 s1 s2 s3 s4 s5 s6 s7).length = 288 := by simp only [bA, List.length_append, aE g0, aE g1, aE g2, aE g3, aE g4, aE g5, aE g6, aE g7]
 have hPl : (cG p (bA a0 a1 a2 a3 a4 a5 a6 a7 s0 s1 s2 s3 s4 s5 s6 s7)).length = 512 * p := bM (by omega)
 have hpd := jX (bA a0 a1 a2 a3 a4 a5 a6 a7 s0 s1 s2 s3 s4 s5 s6 s7) 288 (512 * p) none hNl (by omega) (by omega)
 rw [show (bA a0 a1 a2 a3 a4 a5 a6 a7 s0 s1 s2 s3 s4 s5 s6 s7) ++ List.replicate (512 * p - 288) 0 = cG p (bA a0 a1 a2 a3 a4 a5 a6 a7 s0 s1 s2 s3 s4 s5 s6 s7) by rw [cG, hNl]] at hpd
 generalize cG p (bA a0 a1 a2 a3 a4 a5 a6 a7 s0 s1 s2 s3 s4 s5 s6 s7) = Q at hpd hPl
 generalize (bA a0 a1 a2 a3 a4 a5 a6 a7 s0 s1 s2 s3 s4 s5 s6 s7) = NB at hnp hpd hNl
 have hpg := kS Q (512 * p) none hPl (by omega) (by omega)
 rw [show dI (jL ++ Q) = dL Q from rfl] at hpg
 have hy := bE Q
 generalize dL Q = y at hpg hy
 have h := lV c most p k1 k2 tag n q hq h1 h2 ht hc hc2 hp1 hp2 hn S S2 Q (aT 1 rl) (bD 1 rl) st none y hy hS hm hp hf hPl
 clear hq
 cases rl
 all_goals
  refine acA tab mix Tryz.func27 {} ?_
  refine EffG.mk (And.intro hT ?_)
  refine gob ?_
  refine aA hnp [] ?_
  refine aA hz [] ?_ (hargs := by simp only [D.rens, D.ren, aC]; rfl)
  refine aA hpd [7] ?_
  refine aA hpg [8] ?_
  refine aA h [8, 1] ?_ (hargs := by simp only [D.rens, D.ren, aC]; rfl)
  refine aI [0, 1]
end
theorem z8 (h1 : Rows 15 16 k1) (h2 : Rows 15 16 k2) (ht : tag.length = 32) (hp1 : 1 ≤ p) (hp2 : p ≤ 2) (hn : 65535 < n.toNat) (a0 a1 a2 a3 a4 a5 a6 a7 : BitVec 32) (s0 s1 s2 s3 s4 s5 s6 s7 : B8) (g0 : s0.length = 32) (g1 : s1.length = 32) (g2 : s2.length = 32) (g3 : s3.length = 32) (g4 : s4.length = 32) (g5 : s5.length = 32) (g6 : s6.length = 32) (g7 : s7.length = 32) (S S2 : B8) (rl : List RLo) (st : Nat) :
  AC Tryz.prog 27 [eC c p k1 k2 tag, bU most S S2 (aT 1 rl) st, .u32 n, eR a0 a1 a2 a3 a4 a5 a6 a7 s0 s1 s2 s3 s4 s5 s6 s7] 2 [gK]
   ⟨.tup [bU most S S2 (aT 1 rl) st, aB 0 (List.replicate 32 0), .i64 2], [], []⟩ := by
 have hT := aM (c := c) (p := p) h1 h2 ht
 have hz := cA c p k1 k2 tag h1 h2 ht hp2
 have hnp := qN a0 a1 a2 a3 a4 a5 a6 a7 s0 s1 s2 s3 s4 s5 s6 s7 g0 g1 g2 g3 g4 g5 g6 g7
 have hNl : (bA a0 a1 a2 a3 a4 a5 a6 a7 s0 s1 s2 s3 s4 s5 s6 s7).length = 288 := by simp only [bA, List.length_append, aE g0, aE g1, aE g2, aE g3, aE g4, aE g5, aE g6, aE g7]
 have hPl : (cG p (bA a0 a1 a2 a3 a4 a5 a6 a7 s0 s1 s2 s3 s4 s5 s6 s7)).length = 512 * p := bM (by omega)
 have hpd := jX (bA a0 a1 a2 a3 a4 a5 a6 a7 s0 s1 s2 s3 s4 s5 s6 s7) 288 (512 * p) none hNl (by omega) (by omega)
 rw [show (bA a0 a1 a2 a3 a4 a5 a6 a7 s0 s1 s2 s3 s4 s5 s6 s7) ++ List.replicate (512 * p - 288) 0 = cG p (bA a0 a1 a2 a3 a4 a5 a6 a7 s0 s1 s2 s3 s4 s5 s6 s7) by rw [cG, hNl]] at hpd
 generalize cG p (bA a0 a1 a2 a3 a4 a5 a6 a7 s0 s1 s2 s3 s4 s5 s6 s7) = Q at hpd hPl
 generalize (bA a0 a1 a2 a3 a4 a5 a6 a7 s0 s1 s2 s3 s4 s5 s6 s7) = NB at hnp hpd hNl
 have hpg := kS Q (512 * p) none hPl (by omega) (by omega)
 rw [show dI (jL ++ Q) = dL Q from rfl] at hpg
 have hy := bE Q
 generalize dL Q = y at hpg hy
 have h := lW c most p k1 k2 tag n h1 h2 ht hn S S2 (aT 1 rl) (bD 1 rl) st (512 * p) none y hy
 cases rl
 all_goals
  refine acA tab mix Tryz.func27 {} ?_
  refine EffG.mk (And.intro hT ?_)
  refine gob ?_
  refine aA hnp [] ?_
  refine aA hz [] ?_ (hargs := by simp only [D.rens, D.ren, aC]; rfl)
  refine aA hpd [7] ?_
  refine aA hpg [8] ?_
  refine aA h [8, 1] ?_ (hargs := by simp only [D.rens, D.ren, aC]; rfl)
  refine aI [0, 1]
end
section
variable (a : BitVec 32) (r : B8) (hr : r.length = 32) (h1 : Rows 15 16 k1) (h2 : Rows 15 16 k2) (ht : tag.length = 32)
include a r hr h1 h2 ht
section
variable (q : Nat) (hq : q = 8 + (a - 1).toNat * p) (hc : 1 ≤ c) (hc2 : c ≤ 64) (hp1 : 1 ≤ p) (hp2 : p ≤ 2) (ha0 : 1 ≤ a.toNat) (ha : a.toNat ≤ 65536) (S S2 : B8) (lo : D) (hlo : lo = .nilslice ∨ ∃ n, lo = .slice 0 [] 0 n none) (st : Nat) (hS : S.length ≤ 16777216)
include q hq hc hc2 hp1 hp2 ha0 ha S S2 lo hlo st hS
section
variable (hp : 512 * q + 512 * p ≤ S.length)
include hp
theorem aAW (he : bY tag a (cY S q p) = r) :
  AC Tryz.prog 16 [eC c p k1 k2 tag, bU most S S2 lo st, aB a r] 1 gBK ⟨.tup [.slice 1 [] 0 (512 * p) none, .i64 0], [], [(.row .cell, .u8s (aA6 k1 k2 (cY S q p) q p))]⟩ := by
 have hT := aM (c := c) (p := p) h1 h2 ht
 have h := iL c most p k1 k2 tag a r hr q hq h1 h2 ht hc hc2 hp1 hp2 ha0 ha S S2 lo hlo st hS hp
 have hQl : (cY S q p).length = 512 * p := by rw [cY, List.length_take, List.length_drop]; omega
 generalize cY S q p = Q at h hQl he ⊢
 have hse := g9 c p k1 k2 tag (a - 1) q hq h1 h2 ht hc hc2 hp1 hp2 (by rw [b8 ha0]; omega)
 have hop := aF9 k1 k2 h1 h2 q p hp1 hp2 Q none hQl
 have hOl : (aA6 k1 k2 Q q p).length = 512 * p := pP k2 (by omega)
 generalize aA6 k1 k2 Q q p = OQ at hop hOl ⊢
 generalize BitVec.ofNat 64 q = qw at hse hop
 have hpg := nH tag Q a (512 * p) none ht hQl (by omega) (by omega)
 have hy := aR tag a Q
 generalize bY tag a Q = y at hpg hy he
 clear hq
 rcases hlo with rfl | ⟨m, rfl⟩
 all_goals
  refine acA tab mix Tryz.func16 {} ?_
  refine EffG.mk (And.intro hT ?_)
  refine gob ?_
  refine aA h [0] ?_ (hargs := by simp only [D.rens, D.ren, aC]; rfl)
  refine bK hpg [4] ?_
  repeat first | refine go1 ?_ | refine Br.no (neN he) ?_ | refine Br.yes (neY he) ?_
  refine gob ?_
  refine aA hse [] ?_ (hargs := by simp only [D.rens, D.ren, aC]; rfl)
  refine aA hop [4] ?_ (hargs := by simp only [D.rens, D.ren, aC]; rfl)
  refine aI [0, 5]
theorem aAV (he : ¬ bY tag a (cY S q p) = r) :
  AC Tryz.prog 16 [eC c p k1 k2 tag, bU most S S2 lo st, aB a r] 1 gBK ⟨.tup [.nilslice, .i64 40], [], []⟩ := by
 have hT := aM (c := c) (p := p) h1 h2 ht
 have h := iL c most p k1 k2 tag a r hr q hq h1 h2 ht hc hc2 hp1 hp2 ha0 ha S S2 lo hlo st hS hp
 have hQl : (cY S q p).length = 512 * p := by rw [cY, List.length_take, List.length_drop]; omega
 generalize cY S q p = Q at h hQl he
 have hpg := nH tag Q a (512 * p) none ht hQl (by omega) (by omega)
 have hy := aR tag a Q
 generalize bY tag a Q = y at hpg hy he
 clear hq
 rcases hlo with rfl | ⟨m, rfl⟩
 all_goals
  refine acA tab mix Tryz.func16 {} ?_
  refine EffG.mk (And.intro hT ?_)
  refine gob ?_
  refine aA h [0] ?_ (hargs := by simp only [D.rens, D.ren, aC]; rfl)
  refine bK hpg [4] ?_
  repeat first | refine go1 ?_ | refine Br.no (neN he) ?_ | refine Br.yes (neY he) ?_
  refine aI [0]
end
theorem aAU (hp : S.length < 512 * q + 512 * p) :
  AC Tryz.prog 16 [eC c p k1 k2 tag, bU most S S2 lo st, aB a r] 1 gBK ⟨.tup [.nilslice, .i64 40], [], []⟩ := by
 have hT := aM (c := c) (p := p) h1 h2 ht
 have h := sE c most p k1 k2 tag a r hr q hq h1 h2 ht hc hc2 hp1 hp2 ha0 ha S S2 lo hlo st hS hp
 clear hq
 rcases hlo with rfl | ⟨m, rfl⟩
 all_goals
  refine acA tab mix Tryz.func16 {} ?_
  refine EffG.mk (And.intro hT ?_)
  refine gob ?_
  refine aA h [0] ?_ (hargs := by simp only [D.rens, D.ren, aC]; rfl)
  refine aI [0]
end
theorem aAX (ha : a.toNat = 0 ∨ 65536 < a.toNat) (S S2 : B8) (lo : D) (hlo : lo = .nilslice ∨ ∃ n, lo = .slice 0 [] 0 n none) (st : Nat) :
  AC Tryz.prog 16 [eC c p k1 k2 tag, bU most S S2 lo st, aB a r] 1 gBK ⟨.tup [.nilslice, .i64 2], [], []⟩ := by
 have hT := aM (c := c) (p := p) h1 h2 ht
 have h := sF c most p k1 k2 tag a r hr h1 h2 ht ha S S2 lo hlo st
 rcases hlo with rfl | ⟨m, rfl⟩
 all_goals
  refine acA tab mix Tryz.func16 {} ?_
  refine EffG.mk (And.intro hT ?_)
  refine gob ?_
  refine aA h [0] ?_ (hargs := by simp only [D.rens, D.ren, aC]; rfl)
  refine aI [0]
section
variable (q : Nat) (hq : q = 8 + (a - 1).toNat * p) (hc : 1 ≤ c) (hc2 : c ≤ 64) (hp1 : 1 ≤ p) (hp2 : p ≤ 2) (ha0 : 1 ≤ a.toNat) (ha : a.toNat ≤ 65536) (S S2 : B8) (lo : D) (hlo : lo = .nilslice ∨ ∃ n, lo = .slice 0 [] 0 n none) (st : Nat) (hS : S.length ≤ 16777216)
include q hq hc hc2 hp1 hp2 ha0 ha S S2 lo hlo st hS
section
variable (hp : 512 * q + 512 * p ≤ S.length)
include hp
set_option maxHeartbeats 4000000 in
theorem aAH (he : dL (cY S q p) = r) :
  AC Tryz.prog 18 [eC c p k1 k2 tag, bU most S S2 lo st, aB a r] 1 [gK] ⟨.tup [(pR (cY S q p) p).1, .i64 (pR (cY S q p) p).2], [], []⟩ := by
 have hT := aM (c := c) (p := p) h1 h2 ht
 have h := iL c most p k1 k2 tag a r hr q hq h1 h2 ht hc hc2 hp1 hp2 ha0 ha S S2 lo hlo st hS hp
 have hQl : (cY S q p).length = 512 * p := by rw [cY, List.length_take, List.length_drop]; omega
 generalize cY S q p = Q at h hQl he ⊢
 have hpg := kS Q (512 * p) none hQl (by omega) (by omega)
 rw [show dI (jL ++ Q) = dL Q from rfl] at hpg
 have hy := bE Q
 generalize dL Q = y at hpg hy he
 have hgt := aCw Q (by omega)
 obtain ⟨a0, a1, a2, a3, a4, a5, a6, a7, s0, s1, s2, s3, s4, s5, s6, s7, hG, l0, l1, l2, l3, l4, l5, l6, l7⟩ := qT (Q := Q) (by omega)
 have hz := aEE Q 288 (512 * p - 288) none (by omega) (by omega)
 clear hq
 unfold pR
 cases hbd : aGw Q with
 |true =>
  simp only [aDa, hbd, cond_true, cond_false, Bool.true_or] at hgt ⊢
  rcases hlo with rfl | ⟨m, rfl⟩
  all_goals
   refine acA tab mix Tryz.func18 {} ?_
   refine EffG.mk (And.intro hT ?_)
   refine gob ?_
   refine aA h [0] ?_ (hargs := by simp only [D.rens, D.ren, aC]; rfl)
   refine bG hgt [5] ?_
   refine EffG.mk (And.intro ?_ ?_)
   ·(repeat' (first | assumption | exact trivial | refine And.intro ?_ ?_)) <;> first | rfl | omega
   refine go ?_
   refine bK hpg [5] ?_
   repeat first | refine go1 ?_ | refine Br.no (neN he) ?_ | refine Br.no rfl ?_ | refine Br.yes rfl ?_
   refine aI [0]
 |false =>
  simp only [aDa, hbd, cond_true, cond_false, Bool.false_or] at hgt ⊢
  cases hz0 : eH Q 288 (512 * p - 288) with
  |true =>
   rw [hz0] at hz
   simp only [Bool.not_true, Bool.not_false, cond_true, cond_false]
   rw [hG] at hgt
   rw [hG]
   rcases hlo with rfl | ⟨m, rfl⟩
   all_goals
    refine acA tab mix Tryz.func18 {} ?_
    refine EffG.mk (And.intro hT ?_)
    refine gob ?_
    refine aA h [0] ?_ (hargs := by simp only [D.rens, D.ren, aC]; rfl)
    refine bG hgt [5] ?_
    refine EffG.mk (And.intro ?_ ?_)
    ·(repeat' (first | assumption | exact trivial | refine And.intro ?_ ?_)) <;> first | rfl | omega
    refine go ?_
    refine bK hpg [5] ?_
    repeat first | refine go1 ?_ | refine Br.no (neN he) ?_ | refine Br.no rfl ?_ | refine Br.yes rfl ?_
    refine bK hz [5] ?_
    repeat first | refine go1 ?_ | refine Br.no rfl ?_ | refine Br.yes rfl ?_
    refine EffG.mk (And.intro ?_ ?_)
    ·(repeat' (first | assumption | exact trivial | refine And.intro ?_ ?_)) <;> first | rfl | omega
    refine go ?_
    refine aI [0]
  |false =>
   rw [hz0] at hz
   simp only [Bool.not_true, Bool.not_false, cond_true, cond_false]
   rw [hG] at hgt
   rcases hlo with rfl | ⟨m, rfl⟩
   all_goals
    refine acA tab mix Tryz.func18 {} ?_
    refine EffG.mk (And.intro hT ?_)
    refine gob ?_
    refine aA h [0] ?_ (hargs := by simp only [D.rens, D.ren, aC]; rfl)
    refine bG hgt [5] ?_
    refine EffG.mk (And.intro ?_ ?_)
    ·(repeat' (first | assumption | exact trivial | refine And.intro ?_ ?_)) <;> first | rfl | omega
    refine go ?_
    refine bK hpg [5] ?_
    repeat first | refine go1 ?_ | refine Br.no (neN he) ?_ | refine Br.no rfl ?_ | refine Br.yes rfl ?_
    refine bK hz [5] ?_
    repeat first | refine go1 ?_ | refine Br.no rfl ?_ | refine Br.yes rfl ?_
    refine aI [0]
set_option maxHeartbeats 4000000 in
theorem aAG (he : ¬ dL (cY S q p) = r) :
  AC Tryz.prog 18 [eC c p k1 k2 tag, bU most S S2 lo st, aB a r] 1 [gK] ⟨.tup [iO, .i64 40], [], []⟩ := by
 have hT := aM (c := c) (p := p) h1 h2 ht
 have h := iL c most p k1 k2 tag a r hr q hq h1 h2 ht hc hc2 hp1 hp2 ha0 ha S S2 lo hlo st hS hp
 have hQl : (cY S q p).length = 512 * p := by rw [cY, List.length_take, List.length_drop]; omega
 generalize cY S q p = Q at h hQl he
 have hpg := kS Q (512 * p) none hQl (by omega) (by omega)
 rw [show dI (jL ++ Q) = dL Q from rfl] at hpg
 have hy := bE Q
 generalize dL Q = y at hpg hy he
 have hgt := aCw Q (by omega)
 obtain ⟨a0, a1, a2, a3, a4, a5, a6, a7, s0, s1, s2, s3, s4, s5, s6, s7, hG, l0, l1, l2, l3, l4, l5, l6, l7⟩ := qT (Q := Q) (by omega)
 clear hq
 cases hbd : aGw Q
 all_goals
  simp only [aDa, hbd, cond_true, cond_false] at hgt
  try rw [hG] at hgt
  rcases hlo with rfl | ⟨m, rfl⟩
  all_goals
   refine acA tab mix Tryz.func18 {} ?_
   refine EffG.mk (And.intro hT ?_)
   refine gob ?_
   refine aA h [0] ?_ (hargs := by simp only [D.rens, D.ren, aC]; rfl)
   refine bG hgt [5] ?_
   refine EffG.mk (And.intro ?_ ?_)
   ·(repeat' (first | assumption | exact trivial | refine And.intro ?_ ?_)) <;> first | rfl | omega
   refine go ?_
   refine bK hpg [5] ?_
   repeat first | refine go1 ?_ | refine Br.yes (neY he) ?_ | refine Br.no rfl ?_ | refine Br.yes rfl ?_
   refine aI [0]
end
set_option maxHeartbeats 4000000 in
theorem aAF (hp : S.length < 512 * q + 512 * p) :
  AC Tryz.prog 18 [eC c p k1 k2 tag, bU most S S2 lo st, aB a r] 1 [gK] ⟨.tup [iO, .i64 40], [], []⟩ := by
 have hT := aM (c := c) (p := p) h1 h2 ht
 have h := sE c most p k1 k2 tag a r hr q hq h1 h2 ht hc hc2 hp1 hp2 ha0 ha S S2 lo hlo st hS hp
 clear hq
 rcases hlo with rfl | ⟨m, rfl⟩
 all_goals
  refine acA tab mix Tryz.func18 {} ?_
  refine EffG.mk (And.intro hT ?_)
  refine gob ?_
  refine aA h [0] ?_ (hargs := by simp only [D.rens, D.ren, aC]; rfl)
  refine aI [0]
end
set_option maxHeartbeats 4000000 in
theorem aAI (ha : a.toNat = 0 ∨ 65536 < a.toNat) (S S2 : B8) (lo : D) (hlo : lo = .nilslice ∨ ∃ n, lo = .slice 0 [] 0 n none) (st : Nat) :
  AC Tryz.prog 18 [eC c p k1 k2 tag, bU most S S2 lo st, aB a r] 1 [gK] ⟨.tup [iO, .i64 2], [], []⟩ := by
 have hT := aM (c := c) (p := p) h1 h2 ht
 have h := sF c most p k1 k2 tag a r hr h1 h2 ht ha S S2 lo hlo st
 rcases hlo with rfl | ⟨m, rfl⟩
 all_goals
  refine acA tab mix Tryz.func18 {} ?_
  refine EffG.mk (And.intro hT ?_)
  refine gob ?_
  refine aA h [0] ?_ (hargs := by simp only [D.rens, D.ren, aC]; rfl)
  refine aI [0]
end
end
structure WSt where
 S : B8
 S2 : B8
 N : Nat
 N2 : Nat
 cap : Option Nat
 cap2 : Option Nat
 ls : List Lo
 rl : List RLo
 st : Nat
 rf : List (BitVec 32 × B8)
structure WSt.ok (y : WSt) (i : Nat) : Prop where
 s : y.S.length = y.N
 s2 : y.S2.length = y.N2
 n : y.N ≤ 32768
 n2 : y.N2 ≤ 32768
 l5 : ∀ x ∈ y.ls, x.bytes.length = 512
 ll : y.ls.length ≤ 2 * i
 rll : y.rl.length ≤ 2 * i
 st : y.st ≤ i
 rfn : y.rf.length ≤ i
 rf : ∀ x ∈ y.rf, x.2.length = 32
 cl : (y.ls = [] ∧ y.rl = []) ∨ (y.ls ≠ [] ∧ y.rl ≠ [] ∧ y.rf ≠ [])
theorem WSt.ok.mono {y : WSt} {i : Nat} (h : y.ok i) : y.ok (i + 1) :=
 ⟨h.s, h.s2, h.n, h.n2, h.l5, Nat.le_trans h.ll (by omega), Nat.le_trans h.rll (by omega), Nat.le_succ_of_le h.st, Nat.le_succ_of_le h.rfn, h.rf, h.cl⟩
theorem WSt.ok.cls {y : WSt} {i : Nat} (h : y.ok i) : (y.ls = [] ∧ y.rl = [] ∧ y.rf = []) ∨ (y.ls = [] ∧ y.rl = [] ∧ ∃ r rs, y.rf = r :: rs) ∨ (∃ l ls r rl f rf, y.ls = l :: ls ∧ y.rl = r :: rl ∧ y.rf = f :: rf) := by
 rcases h.cl with ⟨h1, h2⟩ | ⟨h1, h2, h3⟩
 ·cases hr : y.rf with
  |nil => exact .inl ⟨h1, h2, rfl⟩
  |cons r rs => exact .inr (.inl ⟨h1, h2, r, rs, rfl⟩)
 ·obtain ⟨a, l, e1⟩ := List.exists_cons_of_ne_nil h1
  obtain ⟨b, m, e2⟩ := List.exists_cons_of_ne_nil h2
  obtain ⟨c, n, e3⟩ := List.exists_cons_of_ne_nil h3
  exact .inr (.inr ⟨a, l, b, m, c, n, e1, e2, e3⟩)
def rfD (x : BitVec 32 × B8) : D := aB x.1 x.2
abbrev rfsD (l : List (BitVec 32 × B8)) : D := .node (l.map rfD)
theorem aFk (s : Nat → Nat) : ∀ l : List (BitVec 32 × B8), D.rens s (l.map rfD) = l.map rfD
 |[] => rfl
 |a :: l => congrArg (rfD a :: ·) (aFk s l)
instance (l : List (BitVec 32 × B8)) : Pure (rfsD l) := ⟨fun s => congrArg D.node (aFk s l)⟩
theorem aI6 : ∀ {l : List (BitVec 32 × B8)}, (∀ x ∈ l, x.2.length = 32) → gV (aH gU) (l.map rfD)
 |[], _ => trivial
 |s :: l, h => ⟨⟨rfl, h s (by simp), trivial⟩, aI6 fun x hx => h x (by simp [hx])⟩
abbrev rfL (b : Nat) : List (BitVec 32 × B8) → D
 |[] => .nilslice
 |_ :: l => .slice b [] 0 (l.length + 1) none
abbrev rfM (b : Nat) : List (BitVec 32 × B8) → Mem
 |[] => []
 |a :: l => [(b, some ⟨.row gU, rfsD (a :: l), true⟩)]
abbrev oL (b : Nat) : List RLo → Mem
 |[] => []
 |a :: l => [(b, some ⟨.row jR, fL (a :: l), true⟩)]
abbrev oT (b : Nat) : List Lo → D
 |[] => .nilslice
 |_ :: l => .slice b [] 0 (l.length + 1) none
abbrev rfN : List (BitVec 32 × B8) → List (Ty × D)
 |[] => []
 |a :: l => [(.row gU, rfsD (a :: l))]
abbrev loN : List Lo → List (Ty × D)
 |[] => []
 |a :: l => [(.row tLo, cQ (a :: l))]
abbrev rlN : List RLo → List (Ty × D)
 |[] => []
 |a :: l => [(.row jR, fL (a :: l))]
abbrev tW : Ty := .st [.cell, .cell, tRD, tRSp, .cell]
abbrev woW (p : Nat) (k1 k2 : List B8) (tag S S2 : B8) (lo rf : D) (st : Nat) : D := .node [.ptr 1 [], .ptr 5 [], bU 32768 S S2 lo st, eC 8 p k1 k2 tag, rf]
abbrev dvW (b b2 N : Nat) (cap : Option Nat) (N2 : Nat) (cap2 : Option Nat) (lo : D) (st : Nat) : D := .node [.i64 (32768 : Nat), .slice b [] 0 N cap, .slice b2 [] 0 N2 cap2, lo, .i64 st, .bool false, .nilptr]
abbrev woM (p : Nat) (k1 k2 : List B8) (tag : B8) (y : WSt) (B : B8) : Mem :=
 cX 4 y.ls ++ (oL 9 y.rl ++ (rfM 10 y.rf ++ [(0, some ⟨tW, woW p k1 k2 tag y.S y.S2 (aT 9 y.rl) (rfL 10 y.rf) y.st, true⟩), (1, some ⟨tDv, dvW 2 3 y.N y.cap y.N2 y.cap2 (oT 4 y.ls) y.st, true⟩),
  (2, some ⟨.row .cell, .u8s y.S, true⟩), (3, some ⟨.row .cell, .u8s y.S2, true⟩), (5, some ⟨tSp, aGr 1 6 8 p tag, true⟩), (6, some ⟨tX, .node [.ptr 7 [], .ptr 8 []], true⟩), (7, some ⟨tC, cH k1, true⟩), (8, some ⟨tC, cH k2, true⟩),
  (11, some ⟨.row .cell, .u8s B, false⟩), gR, (gid 0, some ⟨jG, .u8s boxL, false⟩), gK]))
abbrev woO (p : Nat) (k1 k2 : List B8) (tag : B8) (y y' : WSt) : Out :=
 ⟨.bool true, (cX 4 y.ls).map (fun z => (z.1, none)) ++ ((oL 9 y.rl).map (fun z => (z.1, none)) ++ ((rfM 10 y.rf).map (fun z => (z.1, none)) ++
  [(0, some (woW p k1 k2 tag y'.S y'.S2 (aT 16 y'.rl) (rfL 14 y'.rf) y'.st)), (1, some (dvW 12 13 y'.N y'.cap y'.N2 y'.cap2 (oT 15 y'.ls) y'.st)), (2, none), (3, none)])),
  [(.row .cell, .u8s y'.S), (.row .cell, .u8s y'.S2)] ++ (rfN y'.rf ++ (loN y'.ls ++ rlN y'.rl))⟩
structure NodeS where
 a0 : BitVec 32
 a1 : BitVec 32
 a2 : BitVec 32
 a3 : BitVec 32
 a4 : BitVec 32
 a5 : BitVec 32
 a6 : BitVec 32
 a7 : BitVec 32
 s0 : B8
 s1 : B8
 s2 : B8
 s3 : B8
 s4 : B8
 s5 : B8
 s6 : B8
 s7 : B8
structure NodeS.ok (n : NodeS) : Prop where
 g0 : n.s0.length = 32
 g1 : n.s1.length = 32
 g2 : n.s2.length = 32
 g3 : n.s3.length = 32
 g4 : n.s4.length = 32
 g5 : n.s5.length = 32
 g6 : n.s6.length = 32
 g7 : n.s7.length = 32
abbrev NodeS.D (n : NodeS) : D := eR n.a0 n.a1 n.a2 n.a3 n.a4 n.a5 n.a6 n.a7 n.s0 n.s1 n.s2 n.s3 n.s4 n.s5 n.s6 n.s7
theorem NodeS.ok.ty {n : NodeS} (h : n.ok) : aH tNd n.D :=
 ⟨rfl, ⟨rfl, h.g0, trivial⟩, ⟨rfl, h.g1, trivial⟩, ⟨rfl, h.g2, trivial⟩, ⟨rfl, h.g3, trivial⟩, ⟨rfl, h.g4, trivial⟩, ⟨rfl, h.g5, trivial⟩, ⟨rfl, h.g6, trivial⟩, ⟨rfl, h.g7, trivial⟩, trivial⟩
structure ActW where
 kd : BitVec 8
 n : BitVec 32
 bs : B8
 x : Option Nat
 nd : NodeS
 wh : BitVec 8
 a : BitVec 32
 r : B8
structure ActW.ok (a : ActW) : Prop where
 x : a.x = none → a.bs.length = 0
 nd : a.nd.ok
 r : a.r.length = 32
 b : a.bs.length ≤ 20000
abbrev eA : Ty := .st [.cell, .cell, .cell, tNd, .cell, gU]
abbrev cT (b : Nat) (a : ActW) : D := .node [.u8 a.kd, .u32 a.n, slD b a.bs.length a.x, a.nd.D, .u8 a.wh, aB a.a a.r]
theorem cellW (b k : Nat) : ∀ x : Option Nat, (slD b k x).isCell = true
 |none => rfl
 |some _ => rfl
theorem ActW.ok.ty {a : ActW} (h : a.ok) (b : Nat) : aH eA (cT b a) := ⟨rfl, rfl, cellW _ _ _, h.nd.ty, rfl, ⟨rfl, h.r, trivial⟩, trivial⟩
theorem aIr (w : BitVec 8) (m : Nat) : Int.tmod (w.toNat : Int) ((m : Int) + 1) = ((w.toNat % (m + 1) : Nat) : Int) := (Int.ofNat_tmod w.toNat (m + 1)).symm
theorem aDo {np nh : Nat} {σ : List Nat} {T : TM} {M : Mem} {tm : TM} {m : Mem} (h1 : (match Nat.ble np nh with | true => (match Nat.ble nh 999998 with | true => nW σ np | false => false) | false => false) = true := by rfl) (h2 : wS (sig nh 0 0 σ) tm T := by ((repeat' (first | exact trivial | refine And.intro ?_ ?_)) <;> (first | rfl | exact (congrArg some (Pure.ren _)).symm | exact congrArg (fun b => some (D.bool b)) (decide_eq_true rfl)))) (h3 : cP (sig nh 0 0 σ) m M := by ((repeat' (first | exact trivial | refine And.intro ⟨_, rfl, rfl, ?_, id⟩ ?_ | refine And.intro ⟨_, rfl, rfl, ?_, fun _ => rfl⟩ ?_)) <;> (first | rfl | exact (Pure.ren _).symm | exact (Pure.ren _).trans (Pure.ren _).symm | (simp only [D.ren, D.rens, aL, aC]; rfl)))) (h4 : cW nh (sig nh 0 0 σ) M M = true := by rfl) : iG np nh σ T M tm m := aN h1 h2 h3 h4
theorem kT {o : Out} {np : Nat} {m0 m : Mem} {ds : List D} (σ : List Nat) (h1 : xB (o.ret.ren (sig (np + o.nw.length) 0 0 σ)) ds := by (first | rfl | exact congrArg D.bool (decide_eq_true rfl))) (h2 : nW σ np = true := by rfl) (h3 : cP (sig (np + o.nw.length) 0 0 σ) m (sV np m0 o) := by ((repeat' (first | exact trivial | refine And.intro ⟨_, rfl, rfl, ?_, id⟩ ?_ | refine And.intro ⟨_, rfl, rfl, ?_, fun _ => rfl⟩ ?_)) <;> (first | rfl | exact (Pure.ren _).symm | exact (Pure.ren _).trans (Pure.ren _).symm | (simp only [D.ren, D.rens, aL, aC]; rfl)))) (h4 : cW (np + o.nw.length) (sig (np + o.nw.length) 0 0 σ) (sV np m0 o) (sV np m0 o) = true := by rfl) : ∃ σ, xB (o.ret.ren (sig (np + o.nw.length) 0 0 σ)) ds ∧ nW σ np = true ∧
   cP (sig (np + o.nw.length) 0 0 σ) m (sV np m0 o) ∧ cW (np + o.nw.length) (sig (np + o.nw.length) 0 0 σ) (sV np m0 o) (sV np m0 o) = true := ⟨σ, h1, h2, h3, h4⟩
section
variable {P : Program} {f : Nat} {args : List D} {m : Mem} {nx : Nat} {R : D → Mem → Nat → List Nat → Prop} {np : Nat} {m0 : Mem} {args0 : List D} {o : Out} (hac : AC P f args0 np m0 o) (σ : List Nat)
include P f args m nx R np m0 args0 o hac σ
theorem yO (hR : R (o.ret.ren (sig np nx o.nw.length σ)) (upM (sig np nx o.nw.length σ) nx m0 o) o.nw.length (jC (sig np nx o.nw.length σ) m0)) (hl : (match Nat.ble (nx + o.nw.length) 999999 with | true => Nat.ble (np + o.nw.length) 999999 | false => false) = true := by rfl) (hargs : args = D.rens (sig np nx o.nw.length σ) args0 := by (simp only [D.rens, D.ren, aL, aC]; rfl)) (hm : cP (sig np nx o.nw.length σ) m m0 := by ((repeat' (first | exact trivial | refine And.intro ⟨_, rfl, rfl, ?_, id⟩ ?_ | refine And.intro ⟨_, rfl, rfl, ?_, fun _ => rfl⟩ ?_)) <;> (first | rfl | exact (Pure.ren _).symm | exact (Pure.ren _).trans (Pure.ren _).symm | (simp only [D.ren, D.rens, aL, aC]; rfl)))) (hn : cW np (sig np nx o.nw.length σ) m0 m0 = true := by rfl) (hw : wrB m0 o.wr = true := by rfl) : CallG P f args m nx R := bF hac σ hl hargs hm hn hw hR
theorem aBV {K : Prop} (k : K) (hl : (match Nat.ble (nx + o.nw.length) 999999 with | true => Nat.ble (np + o.nw.length) 999999 | false => false) = true := by rfl) (hargs : args = D.rens (sig np nx o.nw.length σ) args0 := by (simp only [D.rens, D.ren, aL, aC]; rfl)) (hm : cP (sig np nx o.nw.length σ) m m0 := by ((repeat' (first | exact trivial | refine And.intro ⟨_, rfl, rfl, ?_, id⟩ ?_ | refine And.intro ⟨_, rfl, rfl, ?_, fun _ => rfl⟩ ?_)) <;> (first | rfl | exact (Pure.ren _).symm | exact (Pure.ren _).trans (Pure.ren _).symm | (simp only [D.ren, D.rens, aL, aC]; rfl)))) (hn : cW np (sig np nx o.nw.length σ) m0 m0 = true := by rfl) (hw : wrB m0 o.wr = true := by rfl) (h : Hold K → R (o.ret.ren (sig np nx o.nw.length σ)) (upM (sig np nx o.nw.length σ) nx m0 o) o.nw.length (jC (sig np nx o.nw.length σ) m0) := by intro k; refine gob ?_; exact k.k) : CallG P f args m nx R := bF hac σ hl hargs hm hn hw (h ⟨k⟩)
theorem qD {K : Prop} (k : K) (hl : (match Nat.ble (nx + o.nw.length) 999999 with | true => Nat.ble (np + o.nw.length) 999999 | false => false) = true := by rfl) (hargs : args = D.rens (sig np nx o.nw.length σ) args0 := by (simp only [D.rens, D.ren, aL, aC]; rfl)) (hm : cP (sig np nx o.nw.length σ) m m0 := by ((repeat' (first | exact trivial | refine And.intro ⟨_, rfl, rfl, ?_, id⟩ ?_ | refine And.intro ⟨_, rfl, rfl, ?_, fun _ => rfl⟩ ?_)) <;> (first | rfl | exact (Pure.ren _).symm | exact (Pure.ren _).trans (Pure.ren _).symm | (simp only [D.ren, D.rens, aL, aC]; rfl)))) (hn : cW np (sig np nx o.nw.length σ) m0 m0 = true := by rfl) (hw : wrB m0 o.wr = true := by rfl) (h : Hold K → R (o.ret.ren (sig np nx o.nw.length σ)) (upM (sig np nx o.nw.length σ) nx m0 o) o.nw.length (jC (sig np nx o.nw.length σ) m0) := by intro k; refine go ?_; exact k.k) : CallG P f args m nx R := bF hac σ hl hargs hm hn hw (h ⟨k⟩)
end
theorem aHk {l : List (BitVec 32 × B8)} (h : ∀ x ∈ l, x.2.length = 32) {j : Nat} (hj : j < l.length) : ∃ a r, r.length = 32 ∧ qS (l.map rfD) j = aB a r := by
 refine ⟨(l[j]).1, (l[j]).2, h _ (List.getElem_mem _), ?_⟩
 have h2 : j < (l.map rfD).length := by rw [List.length_map]; exact hj
 have h3 := sX h2
 rw [List.getElem?_map, List.getElem?_eq_getElem hj] at h3
 exact (Option.some.inj h3).symm
structure Is {α : Type} (x : α) : Prop where
 t : True
theorem is {α : Type} (x : α) : Is x := ⟨trivial⟩
theorem joinJ {np : Nat} {A : (TM → Mem → Nat → Prop) → Prop} {B : TM → Mem → Nat → Prop} {M : BitVec 32 × B8 → Mem} (_ : Is M) (h1 : A (fun tm' m' _ => ∃ x σ, x.2.length = 32 ∧ iG np 14 σ [(0, .ptr 0 []), (3, .ptr 12 []), (5, .ptr 13 [])] (M x) tm' m')) (h2 : ∀ x, x.2.length = 32 → B [(0, .ptr 0 []), (3, .ptr 12 []), (5, .ptr 13 [])] (M x) 14) : JoinG np A B :=
 u2 (BitVec 32 × B8) (fun _ => [(0, .ptr 0 []), (3, .ptr 12 []), (5, .ptr 13 [])]) M 14 (fun z => z.2.length = 32) h1 h2
theorem aJe {np : Nat} {T : TM} {M : BitVec 32 × B8 → Mem} {tm : TM} {m : Mem} {x : BitVec 32 × B8} (_ : Is x) (h1 : x.2.length = 32) (h3 : iG np 14 [0, 1, 2, 3, 4, 5, 6, 7, 8, 9, 10, 11, 12, 13] T (M x) tm m) :
  ∃ x σ, x.2.length = 32 ∧ iG np 14 σ T (M x) tm m := ⟨x, _, h1, h3⟩
theorem tmod0J {wh : BitVec 8} (_ : Is wh) : Int.tmod ((wh.toNat : Nat) : Int) (0 + 1) = 0 := Int.tmod_one _
theorem modJ {wh : BitVec 8} {r0 : BitVec 32 × B8} {rs : List (BitVec 32 × B8)} (_ : Is wh) (_ : ∀ x ∈ r0 :: rs, x.2.length = 32) :
  ∃ j : Nat, Int.tmod ((wh.toNat : Nat) : Int) (((rs.length + 1 : Nat) : Int) + 1) = ((j : Nat) : Int) ∧ j < rs.length + 2 := ⟨_, aIr wh (rs.length + 1), Nat.mod_lt _ (by omega)⟩
theorem nthJ {j : Nat} {r0 : BitVec 32 × B8} {rs : List (BitVec 32 × B8)} (h : ∀ x ∈ r0 :: rs, x.2.length = 32) (hh : decide (((j : Nat) : Int) < ((rs.length + 1 : Nat) : Int)) = true) :
  ∃ b c, c.length = 32 ∧ qS (List.map rfD (r0 :: rs)) (0 + ((j : Nat) : Int).toNat) = aB b c ∧ 0 + ((j : Nat) : Int).toNat < (List.map rfD (r0 :: rs)).length ∧ j < rs.length + 1 := by
 have hj : j < (r0 :: rs).length := by have := of_decide_eq_true hh; show j < rs.length + 1; omega
 obtain ⟨b, c, hc, hx⟩ := aHk h hj
 exact ⟨b, c, hc, by rw [Nat.zero_add]; exact hx, by rw [Nat.zero_add, List.length_map]; exact hj, hj⟩
structure HoldF (K : BitVec 32 → B8 → Prop) : Prop where
 k : ∀ a b, b.length = 32 → K a b
theorem fR {G : Prop} {K : BitVec 32 → B8 → Prop} {M : BitVec 32 × B8 → Mem} {wh : BitVec 8} {ar : BitVec 32} {r : B8} {rf : List (BitVec 32 × B8)} (fM : Is M) (fw : Is wh) (fr : Is (ar, r)) (hr : r.length = 32) (hrf : ∀ x ∈ rf, x.2.length = 32) (k : ∀ za zr, zr.length = 32 → K za zr) (h : HoldF K → Is M → Is wh → Is (ar, r) → r.length = 32 → (∀ x ∈ rf, x.2.length = 32) → G := by
   intro k fM fw fr hr32 hrf
   refine joinJ fM ?_ ?_
   ·first
    |have q := tmod0J fw
     repeat first | rw [q] | refine go1 ?_
     refine brN ?_ (h := rfl)
     refine go ?_
     exact aJe fr hr32 aDo
    |obtain ⟨j, q, hql⟩ := modJ fw hrf
     repeat first | rw [q] | refine go1 ?_
     refine Br.split (fun hh => ?_) (fun hh => ?_)
     ·obtain ⟨b, c, hc, hx, hj, hjl⟩ := nthJ hrf hh
      iterate 6 (first | refine go1 ?_)
      refine aCU (aB b c) rfl rfl rfl rfl rfl (congrArg some hx) ⟨hj, trivial⟩ ?_
      refine go ?_
      exact aJe (is (b, c)) hc aDo
     ·refine go ?_
      exact aJe fr hr32 aDo
   ·rintro ⟨za, zr⟩ hz
    refine go ?_
    exact k.k za zr hz) : G := h ⟨k⟩ fM fw fr hr hrf
theorem eO (a : BitVec 32) (s : B8) : (aB a s).eqb (aB a s) = true := by
 show (decide (a = a) && (decide (s = s) && true)) = true
 rw [decide_eq_true rfl, decide_eq_true rfl]; rfl
theorem nodeeq (a0 a1 a2 a3 a4 a5 a6 a7 : BitVec 32) (s0 s1 s2 s3 s4 s5 s6 s7 : B8) : (eR a0 a1 a2 a3 a4 a5 a6 a7 s0 s1 s2 s3 s4 s5 s6 s7).eqb (eR a0 a1 a2 a3 a4 a5 a6 a7 s0 s1 s2 s3 s4 s5 s6 s7) = true := by
 show ((aB a0 s0).eqb (aB a0 s0) && ((aB a1 s1).eqb (aB a1 s1) && ((aB a2 s2).eqb (aB a2 s2) && ((aB a3 s3).eqb (aB a3 s3) && ((aB a4 s4).eqb (aB a4 s4) && ((aB a5 s5).eqb (aB a5 s5) && ((aB a6 s6).eqb (aB a6 s6) && ((aB a7 s7).eqb (aB a7 s7) && true)))))))) = true
 rw [eO, eO, eO, eO, eO, eO, eO, eO]; rfl
theorem cS {α : Type} (l m : List α) {p : Nat} (hm : m.length = p) (hp : 1 ≤ p) : ∃ a t, l ++ m = a :: t ∧ l.length + p = t.length + 1 := by
 cases h : l ++ m with
 |nil =>
  have := congrArg List.length h
  rw [List.length_append, List.length_nil] at this
  omega
 |cons a t =>
  refine ⟨a, t, rfl, ?_⟩
  have := congrArg List.length h
  rw [List.length_append, List.length_cons] at this
  omega
section
variable (T : B8) (q p : Nat) (hp1 : 1 ≤ p) (hp2 : p ≤ 2)
include T q p hp1 hp2
theorem d9 : (loP T q p).length = p := by
 have : p = 1 ∨ p = 2 := by omega
 rcases this with rfl | rfl <;> rfl
theorem d8 : (rlP T q p).length = p := by
 have : p = 1 ∨ p = 2 := by omega
 rcases this with rfl | rfl <;> rfl
theorem kA (h : 512 * q + 512 * p ≤ T.length) : ∀ x ∈ loP T q p, x.bytes.length = 512 := by
 have : p = 1 ∨ p = 2 := by omega
 rcases this with rfl | rfl
 ·intro x hx
  have hx : x ∈ [loF T q] := hx
  rw [List.mem_singleton] at hx
  rw [hx]; exact bR T q (by omega)
 ·intro x hx
  have hx : x ∈ [loF T q, loF T (q + 1)] := hx
  rw [List.mem_cons, List.mem_singleton] at hx
  rcases hx with rfl | rfl
  ·exact bR T q (by omega)
  ·exact bR T (q + 1) (by omega)
end
section
variable {S S2 : B8} {N N2 : Nat} {cap cap2 : Option Nat} {ls : List Lo} {rl : List RLo} {st : Nat} {rf : List (BitVec 32 × B8)} {i : Nat} (h : WSt.ok ⟨S, S2, N, N2, cap, cap2, ls, rl, st, rf⟩ i)
include S S2 N N2 cap cap2 ls rl st rf i h
theorem WSt.ok.lay {T T2 : B8} {N' N2' : Nat} (cap' cap2' : Option Nat) (e1 : T.length = N') (e2 : T2.length = N2') (b1 : N' ≤ 32768) (b2 : N2' ≤ 32768) : WSt.ok ⟨T, T2, N', N2', cap', cap2', ls, rl, st, rf⟩ (i + 1) :=
 ⟨e1, e2, b1, b2, h.mono.l5, h.mono.ll, h.mono.rll, h.mono.st, h.mono.rfn, h.mono.rf, h.mono.cl⟩
theorem WSt.ok.put {T : B8} {N' p : Nat} (cap' : Option Nat) {lo' : List Lo} {rlo' : List RLo} {la : Lo} {ll : List Lo} {ra : RLo} {rll : List RLo} {m : BitVec 32} {sm : B8} (hp1 : 1 ≤ p) (hp2 : p ≤ 2) (e1 : T.length = N') (b1 : N' ≤ 32768) (el : ls ++ lo' = la :: ll) (ell : ls.length + p = ll.length + 1) (h5 : ∀ x ∈ lo', x.bytes.length = 512) (er : rl.length + p = rll.length + 1) (hsm : sm.length = 32) :
  WSt.ok ⟨T, S2, N', N2, cap', cap2, la :: ll, ra :: rll, st + 1, rf ++ [(m, sm)]⟩ (i + 1) := by
 have hll : ls.length ≤ 2 * i := h.ll
 have hrl : rl.length ≤ 2 * i := h.rll
 have hl5 : ∀ x ∈ ls, x.bytes.length = 512 := h.l5
 have hrf : ∀ x ∈ rf, x.2.length = 32 := h.rf
 refine ⟨e1, h.s2, b1, h.n2, ?_, ?_, ?_, Nat.succ_le_succ h.st, ?_, ?_, .inr ⟨by simp, by simp, by simp⟩⟩
 ·intro x hx
  have hx : x ∈ la :: ll := hx
  rw [← el, List.mem_append] at hx
  rcases hx with hx | hx
  ·exact hl5 x hx
  ·exact h5 x hx
 ·show ll.length + 1 ≤ 2 * (i + 1)
  omega
 ·show rll.length + 1 ≤ 2 * (i + 1)
  omega
 ·show (rf ++ [(m, sm)]).length ≤ i + 1
  rw [List.length_append]; exact Nat.succ_le_succ h.rfn
 ·intro x hx
  have hx : x ∈ rf ++ [(m, sm)] := hx
  rw [List.mem_append, List.mem_singleton] at hx
  rcases hx with hx | rfl
  ·exact hrf x hx
  ·exact hsm
end
section
variable (p : Nat) (hp1 : 1 ≤ p) (hp2 : p ≤ 2) (k1 k2 : List B8) (tag : B8) (h1 : Rows 15 16 k1) (h2 : Rows 15 16 k2) (ht : tag.length = 32) (y : WSt) (i : Nat) (hi : i ≤ 20) (hy : y.ok i) (a : ActW) (ha : a.ok)
include p hp1 hp2 k1 k2 tag h1 h2 ht y i hi hy a ha
set_option maxHeartbeats 4000000 in
theorem aE7 (hk : a.kd % 8 = 7) :
  ∃ y' : WSt, y'.ok (i + 1) ∧ AC Tryz.prog 7 [.ptr 0 [], cT 11 a] 12 (woM p k1 k2 tag y a.bs) (woO p k1 k2 tag y y') := by
 obtain ⟨S, S2, N, N2, cap, cap2, ls, rl, st, rf⟩ := y
 have hTa := ha.ty 11
 have hcls := hy.cls
 have hok := hy
 obtain ⟨hs, hs2, hn, hn2, hl5, hll, hrll, hst, hrfn, hrf, _⟩ := hy
 dsimp only at hcls hs hs2 hn hn2 hl5 hll hrll hst hrfn hrf
 have hT := aM (c := 8) (p := p) h1 h2 ht
 have hr32 := ha.r
 have hbs := ha.b
 have hxk := ha.x
 have hnd := ha.nd
 obtain ⟨kd, an, bs, x, nd, wh, ar, r⟩ := a
 dsimp only at hk hr32 hbs hxk hnd
 obtain ⟨k, hbk⟩ : ∃ k, bs.length = k := ⟨_, rfl⟩
 dsimp only [cT] at hTa
 rw [hbk] at hTa hbs hxk
 have hp := aIL 32768 N cap N2 cap2 ls st S hs (by omega) (by omega)
 have hd := aFq 32768 S S2 (aT 0 rl) st (bD 0 rl) (by omega)
 refine ⟨⟨S, S, N, N, cap, none, [], [], st + 1, rf⟩, ⟨hs, hs, hn, hn, (fun _ h => by simp at h), Nat.zero_le _, Nat.zero_le _, Nat.succ_le_succ hst, Nat.le_succ_of_le hrfn, hrf, .inl ⟨rfl, rfl⟩⟩, ?_⟩
 have fM : Is (fun z : BitVec 32 × B8 => ((13, some ⟨gU, aB z.1 z.2, true⟩) :: (12, some ⟨eA, D.node [.u8 kd, .u32 an, slD 11 k x, nd.D, .u8 wh, aB ar r], true⟩) :: woM p k1 k2 tag ⟨S, S2, N, N2, cap, cap2, ls, rl, st, rf⟩ bs : Mem)) := is _
 rcases hcls with ⟨rfl, rfl, rfl⟩ | ⟨rfl, rfl, r0, rs, rfl⟩ | ⟨l0, ls, q0, rl, r0, rs, rfl, rfl, rfl⟩
 all_goals
  dsimp only [woM, woO, woW, dvW, cT, rfL, aT, oT, cX, dU, oL, eG, rfM, rfN, loN, rlN, List.nil_append, List.cons_append, List.map_nil, List.map_cons]
  rw [hbk]
  clear hok hs hs2 hn hn2 hl5 hll hrll hst ha hxk hbs hp1 hp2 ht hnd
  simp only [List.length_cons, List.length_nil] at hrfn
  refine acA tab mix Tryz.func7 ⟨[5], []⟩ ?_
  refine EffG.mk (And.intro hTa ?_)
  refine go ?_
  refine fR fM (is wh) (is (ar, r)) hr32 hrf (fun za zr hz => ?_)
  iterate 4 (refine brN ?_ (h := decide_eq_false (fun e => absurd (hk.symm.trans e) (by decide))); refine go ?_)
  refine brY ?_ (h := decide_eq_true hk)
  refine go ?_
  refine bG hp [1, 2, 3, 4] ?_
  refine bG hd [9] ?_
  refine kT [0, 1, 2, 3, 4, 5, 6, 7, 8, 9, 10, 11, 2, 14, 10]
section
variable (hk : a.kd % 8 = 6)
include hk
set_option maxHeartbeats 4000000 in
theorem aC6 (hc : y.N < (a.n % 20000#32).toNat ∨ 32768 < (a.n % 20000#32).toNat + a.bs.length) (hb : (a.n % 20000#32).toNat < 20000) :
  ∃ y' : WSt, y'.ok (i + 1) ∧ AC Tryz.prog 7 [.ptr 0 [], cT 11 a] 12 (woM p k1 k2 tag y a.bs) (woO p k1 k2 tag y y') := by
 obtain ⟨S, S2, N, N2, cap, cap2, ls, rl, st, rf⟩ := y
 have hTa := ha.ty 11
 have hcls := hy.cls
 have hok := hy
 obtain ⟨hs, hs2, hn, hn2, hl5, hll, hrll, hst, hrfn, hrf, _⟩ := hy
 dsimp only at hcls hs hs2 hn hn2 hl5 hll hrll hst hrfn hrf
 have hT := aM (c := 8) (p := p) h1 h2 ht
 have hr32 := ha.r
 have hbs := ha.b
 have hxk := ha.x
 have hnd := ha.nd
 obtain ⟨kd, an, bs, x, nd, wh, ar, r⟩ := a
 dsimp only at hk hr32 hbs hxk hnd
 obtain ⟨k, hbk⟩ : ∃ k, bs.length = k := ⟨_, rfl⟩
 dsimp only [cT] at hTa
 rw [hbk] at hTa hbs hxk
 dsimp only at hc hb
 try rw [hbk] at hb
 try rw [hbk] at hc
 obtain ⟨pos, hpos⟩ : ∃ pos, (an % 20000#32).toNat = pos := ⟨_, rfl⟩
 have hpl : pos < 20000 := by rw [← hpos, BitVec.toNat_umod]; exact Nat.mod_lt _ (by decide)
 rw [hpos] at hc
 try rw [hpos] at hb
 refine ⟨⟨S, S2, N, N2, cap, cap2, ls, rl, st, rf⟩, hok.mono, ?_⟩
 cases x with
 |none =>
  have hp := fun xx hx => aBO 32768 N cap N2 cap2 ls st pos k xx hx hc hn (by omega) (by omega) (by omega)
  have hp := hp none hxk
  have hk0 : k = 0 := hxk rfl
  have hd := aAN 32768 S S2 [] (aT 0 rl) st pos (bD 0 rl) (by omega) (by omega) (by rw [List.length_nil]; omega) (by omega) (by rw [List.length_nil]; omega)
  have fM : Is (fun z : BitVec 32 × B8 => ((13, some ⟨gU, aB z.1 z.2, true⟩) :: (12, some ⟨eA, D.node [.u8 kd, .u32 an, slD 11 k none, nd.D, .u8 wh, aB ar r], true⟩) :: woM p k1 k2 tag ⟨S, S2, N, N2, cap, cap2, ls, rl, st, rf⟩ bs : Mem)) := is _
  rcases hcls with ⟨rfl, rfl, rfl⟩ | ⟨rfl, rfl, r0, rs, rfl⟩ | ⟨l0, ls, q0, rl, r0, rs, rfl, rfl, rfl⟩
  all_goals
   dsimp only [woM, woO, woW, dvW, cT, rfL, aT, oT, cX, dU, oL, eG, rfM, rfN, loN, rlN, List.nil_append, List.cons_append, List.map_nil, List.map_cons]
   rw [hbk]
   clear hok hs hs2 hn hn2 hl5 hll hrll hst ha hxk hbs hp1 hp2 ht hnd hc hb hpl
   simp only [List.length_cons, List.length_nil] at hrfn
   refine acA tab mix Tryz.func7 ⟨[5], []⟩ ?_
   refine EffG.mk (And.intro hTa ?_)
   refine go ?_
   refine fR fM (is wh) (is (ar, r)) hr32 hrf (fun za zr hz => ?_)
   iterate 3 (refine brN ?_ (h := decide_eq_false (fun e => absurd (hk.symm.trans e) (by decide))); refine go ?_)
   refine brY ?_ (h := decide_eq_true hk)
   refine go ?_
   refine go ?_
   refine bG hp [1, 2, 3, 4, 11] ?_ (hargs := by rw [← hpos]; first | rfl | (simp only [D.rens, D.ren, aL]; rfl))
   refine bG hd [9] ?_ (hargs := by rw [← hpos]; rfl)
   refine kT [0, 1, 2, 3, 4, 5, 6, 7, 8, 9, 10, 11, 2, 3, 10, 4, 9]
 |some cx =>
  have hp := fun xx hx => aBO 32768 N cap N2 cap2 ls st pos k xx hx hc hn (by omega) (by omega) (by omega)
  have hp := hp (some cx) hxk
  have hBl : (List.take k (List.drop 0 bs)).length = k := by rw [List.drop_zero, List.length_take]; omega
  have hd := aAN 32768 S S2 (List.take k (List.drop 0 bs)) (aT 0 rl) st pos (bD 0 rl) (by omega) (by omega) (by omega) (by omega) (by omega)
  have fM : Is (fun z : BitVec 32 × B8 => ((13, some ⟨gU, aB z.1 z.2, true⟩) :: (12, some ⟨eA, D.node [.u8 kd, .u32 an, slD 11 k (some cx), nd.D, .u8 wh, aB ar r], true⟩) :: woM p k1 k2 tag ⟨S, S2, N, N2, cap, cap2, ls, rl, st, rf⟩ bs : Mem)) := is _
  rcases hcls with ⟨rfl, rfl, rfl⟩ | ⟨rfl, rfl, r0, rs, rfl⟩ | ⟨l0, ls, q0, rl, r0, rs, rfl, rfl, rfl⟩
  all_goals
   dsimp only [woM, woO, woW, dvW, cT, rfL, aT, oT, cX, dU, oL, eG, rfM, rfN, loN, rlN, List.nil_append, List.cons_append, List.map_nil, List.map_cons]
   rw [hbk]
   clear hok hs hs2 hn hn2 hl5 hll hrll hst ha hxk hbs hp1 hp2 ht hnd hc hb hpl
   simp only [List.length_cons, List.length_nil] at hrfn
   refine acA tab mix Tryz.func7 ⟨[5], []⟩ ?_
   refine EffG.mk (And.intro hTa ?_)
   refine go ?_
   refine fR fM (is wh) (is (ar, r)) hr32 hrf (fun za zr hz => ?_)
   iterate 3 (refine brN ?_ (h := decide_eq_false (fun e => absurd (hk.symm.trans e) (by decide))); refine go ?_)
   refine brY ?_ (h := decide_eq_true hk)
   refine go ?_
   refine go ?_
   refine bG hp [1, 2, 3, 4, 11] ?_ (hargs := by rw [← hpos]; first | rfl | (simp only [D.rens, D.ren, aL]; rfl))
   refine bG hd [9] ?_ (hargs := by rw [← hpos]; rfl)
   refine kT [0, 1, 2, 3, 4, 5, 6, 7, 8, 9, 10, 11, 2, 3, 10, 4, 9]
section
variable (hc : (a.n % 20000#32).toNat ≤ y.N)
include hc
set_option maxHeartbeats 4000000 in
theorem aC5 (hb : a.bs.length = 0) :
  ∃ y' : WSt, y'.ok (i + 1) ∧ AC Tryz.prog 7 [.ptr 0 [], cT 11 a] 12 (woM p k1 k2 tag y a.bs) (woO p k1 k2 tag y y') := by
 obtain ⟨S, S2, N, N2, cap, cap2, ls, rl, st, rf⟩ := y
 have hTa := ha.ty 11
 have hcls := hy.cls
 have hok := hy
 obtain ⟨hs, hs2, hn, hn2, hl5, hll, hrll, hst, hrfn, hrf, _⟩ := hy
 dsimp only at hcls hs hs2 hn hn2 hl5 hll hrll hst hrfn hrf
 have hT := aM (c := 8) (p := p) h1 h2 ht
 have hr32 := ha.r
 have hbs := ha.b
 have hxk := ha.x
 have hnd := ha.nd
 obtain ⟨kd, an, bs, x, nd, wh, ar, r⟩ := a
 dsimp only at hk hr32 hbs hxk hnd
 obtain ⟨k, hbk⟩ : ∃ k, bs.length = k := ⟨_, rfl⟩
 dsimp only [cT] at hTa
 rw [hbk] at hTa hbs hxk
 dsimp only at hc hb
 try rw [hbk] at hb
 try rw [hbk] at hc
 obtain ⟨pos, hpos⟩ : ∃ pos, (an % 20000#32).toNat = pos := ⟨_, rfl⟩
 have hpl : pos < 20000 := by rw [← hpos, BitVec.toNat_umod]; exact Nat.mod_lt _ (by decide)
 rw [hpos] at hc
 try rw [hpos] at hb
 have hb : k = 0 := hb
 subst hb
 refine ⟨⟨S, S2, N, N2, cap, cap2, ls, rl, st, rf⟩, hok.mono, ?_⟩
 cases x with
 |none =>
  have hp := fun xx => aBN 32768 N cap N2 cap2 ls st pos xx hc hn (by omega)
  have hl0 : ∀ Q : B8, aD2 Q [] pos = Q := fun Q => if_pos rfl
  have hp := hp none
  have hd := kV 32768 S S2 [] (aT 0 rl) st pos (bD 0 rl) (by omega) (by omega) (by omega) (by omega) (by rw [List.length_nil]; omega)
  rw [hl0, hl0] at hd
  have fM : Is (fun z : BitVec 32 × B8 => ((13, some ⟨gU, aB z.1 z.2, true⟩) :: (12, some ⟨eA, D.node [.u8 kd, .u32 an, slD 11 0 none, nd.D, .u8 wh, aB ar r], true⟩) :: woM p k1 k2 tag ⟨S, S2, N, N2, cap, cap2, ls, rl, st, rf⟩ bs : Mem)) := is _
  rcases hcls with ⟨rfl, rfl, rfl⟩ | ⟨rfl, rfl, r0, rs, rfl⟩ | ⟨l0, ls, q0, rl, r0, rs, rfl, rfl, rfl⟩
  all_goals
   dsimp only [woM, woO, woW, dvW, cT, rfL, aT, oT, cX, dU, oL, eG, rfM, rfN, loN, rlN, List.nil_append, List.cons_append, List.map_nil, List.map_cons]
   rw [hbk]
   clear hok hs hs2 hn hn2 hl5 hll hrll hst ha hxk hbs hp1 hp2 ht hnd hc hpl hl0
   simp only [List.length_cons, List.length_nil] at hrfn
   refine acA tab mix Tryz.func7 ⟨[5], []⟩ ?_
   refine EffG.mk (And.intro hTa ?_)
   refine go ?_
   refine fR fM (is wh) (is (ar, r)) hr32 hrf (fun za zr hz => ?_)
   iterate 3 (refine brN ?_ (h := decide_eq_false (fun e => absurd (hk.symm.trans e) (by decide))); refine go ?_)
   refine brY ?_ (h := decide_eq_true hk)
   refine go ?_
   refine go ?_
   refine bG hp [1, 2, 3, 4, 11] ?_ (hargs := by rw [← hpos]; first | rfl | (simp only [D.rens, D.ren, aL]; rfl))
   refine bG hd [9] ?_ (hargs := by rw [← hpos]; rfl)
   refine kT [0, 1, 2, 3, 4, 5, 6, 7, 8, 9, 10, 11, 2, 3, 10, 4, 9]
 |some cx =>
  have hp := fun xx => aBN 32768 N cap N2 cap2 ls st pos xx hc hn (by omega)
  have hl0 : ∀ Q : B8, aD2 Q [] pos = Q := fun Q => if_pos rfl
  have hp := hp (some cx)
  have hd := kV 32768 S S2 (List.take 0 (List.drop 0 bs)) (aT 0 rl) st pos (bD 0 rl) (by omega) (by omega) (by omega) (by omega) (by rw [List.take_zero, List.length_nil]; omega)
  rw [show aD2 S (List.take 0 (List.drop 0 bs)) pos = S from hl0 S, show aD2 S2 (List.take 0 (List.drop 0 bs)) pos = S2 from hl0 S2] at hd
  have fM : Is (fun z : BitVec 32 × B8 => ((13, some ⟨gU, aB z.1 z.2, true⟩) :: (12, some ⟨eA, D.node [.u8 kd, .u32 an, slD 11 0 (some cx), nd.D, .u8 wh, aB ar r], true⟩) :: woM p k1 k2 tag ⟨S, S2, N, N2, cap, cap2, ls, rl, st, rf⟩ bs : Mem)) := is _
  rcases hcls with ⟨rfl, rfl, rfl⟩ | ⟨rfl, rfl, r0, rs, rfl⟩ | ⟨l0, ls, q0, rl, r0, rs, rfl, rfl, rfl⟩
  all_goals
   dsimp only [woM, woO, woW, dvW, cT, rfL, aT, oT, cX, dU, oL, eG, rfM, rfN, loN, rlN, List.nil_append, List.cons_append, List.map_nil, List.map_cons]
   rw [hbk]
   clear hok hs hs2 hn hn2 hl5 hll hrll hst ha hxk hbs hp1 hp2 ht hnd hc hpl hl0
   simp only [List.length_cons, List.length_nil] at hrfn
   refine acA tab mix Tryz.func7 ⟨[5], []⟩ ?_
   refine EffG.mk (And.intro hTa ?_)
   refine go ?_
   refine fR fM (is wh) (is (ar, r)) hr32 hrf (fun za zr hz => ?_)
   iterate 3 (refine brN ?_ (h := decide_eq_false (fun e => absurd (hk.symm.trans e) (by decide))); refine go ?_)
   refine brY ?_ (h := decide_eq_true hk)
   refine go ?_
   refine go ?_
   refine bG hp [1, 2, 3, 4, 11] ?_ (hargs := by rw [← hpos]; first | rfl | (simp only [D.rens, D.ren, aL]; rfl))
   refine bG hd [9] ?_ (hargs := by rw [← hpos]; rfl)
   refine kT [0, 1, 2, 3, 4, 5, 6, 7, 8, 9, 10, 11, 2, 3, 10, 4, 9]
set_option maxHeartbeats 4000000 in
theorem aBK (hb : 0 < a.bs.length ∧ (a.n % 20000#32).toNat + a.bs.length ≤ 32768 ∧ (a.n % 20000#32).toNat + a.bs.length ≤ y.N ∧ (a.n % 20000#32).toNat + a.bs.length ≤ y.N2) :
  ∃ y' : WSt, y'.ok (i + 1) ∧ AC Tryz.prog 7 [.ptr 0 [], cT 11 a] 12 (woM p k1 k2 tag y a.bs) (woO p k1 k2 tag y y') := by
 obtain ⟨S, S2, N, N2, cap, cap2, ls, rl, st, rf⟩ := y
 have hTa := ha.ty 11
 have hcls := hy.cls
 have hok := hy
 obtain ⟨hs, hs2, hn, hn2, hl5, hll, hrll, hst, hrfn, hrf, _⟩ := hy
 dsimp only at hcls hs hs2 hn hn2 hl5 hll hrll hst hrfn hrf
 have hT := aM (c := 8) (p := p) h1 h2 ht
 have hr32 := ha.r
 have hbs := ha.b
 have hxk := ha.x
 have hnd := ha.nd
 obtain ⟨kd, an, bs, x, nd, wh, ar, r⟩ := a
 dsimp only at hk hr32 hbs hxk hnd
 obtain ⟨k, hbk⟩ : ∃ k, bs.length = k := ⟨_, rfl⟩
 dsimp only [cT] at hTa
 rw [hbk] at hTa hbs hxk
 dsimp only at hc hb
 try rw [hbk] at hb
 try rw [hbk] at hc
 obtain ⟨pos, hpos⟩ : ∃ pos, (an % 20000#32).toNat = pos := ⟨_, rfl⟩
 have hpl : pos < 20000 := by rw [← hpos, BitVec.toNat_umod]; exact Nat.mod_lt _ (by decide)
 rw [hpos] at hc
 try rw [hpos] at hb
 obtain ⟨hk0, hf, hg1, hg2⟩ := hb
 have hBl : (List.take k (List.drop 0 bs)).length = k := by rw [List.drop_zero, List.length_take]; omega
 have hll : ∀ Q, aD2 Q (List.take k (List.drop 0 bs)) pos = aV Q (List.take k (List.drop 0 bs)) pos := fun Q => if_neg (by omega)
 have hp := fun cx => aEc 32768 N cap N2 cap2 ls st pos 0 k (some cx) S S2 bs hs hs2 hc (by omega) (by omega) (by omega) hk0 hf hn hn2 (by omega)
 have hd := kV 32768 S S2 (List.take k (List.drop 0 bs)) (aT 0 rl) st pos (bD 0 rl) (by omega) (by omega) (by omega) (by omega) (by omega)
 rw [hll, hll] at hd
 have hT1 := aU (S := S) (B := (List.take k (List.drop 0 bs))) (p := pos)
 have hT2 := aU (S := S2) (B := (List.take k (List.drop 0 bs))) (p := pos)
 clear hll
 generalize aV S (List.take k (List.drop 0 bs)) pos = T at hp hd hT1
 generalize aV S2 (List.take k (List.drop 0 bs)) pos = T2 at hp hd hT2
 refine ⟨⟨T, T2, N, N2, cap, cap2, ls, rl, st, rf⟩, hok.lay _ _ (by rw [hT1, hs, hBl]; omega) (by rw [hT2, hs2, hBl]; omega) (by omega) (by omega), ?_⟩
 cases x with
 |none =>
  have := hxk rfl; omega
 |some cx =>
  have hp := hp cx
  have fM : Is (fun z : BitVec 32 × B8 => ((13, some ⟨gU, aB z.1 z.2, true⟩) :: (12, some ⟨eA, D.node [.u8 kd, .u32 an, slD 11 k (some cx), nd.D, .u8 wh, aB ar r], true⟩) :: woM p k1 k2 tag ⟨S, S2, N, N2, cap, cap2, ls, rl, st, rf⟩ bs : Mem)) := is _
  rcases hcls with ⟨rfl, rfl, rfl⟩ | ⟨rfl, rfl, r0, rs, rfl⟩ | ⟨l0, ls, q0, rl, r0, rs, rfl, rfl, rfl⟩
  all_goals
   dsimp only [woM, woO, woW, dvW, cT, rfL, aT, oT, cX, dU, oL, eG, rfM, rfN, loN, rlN, List.nil_append, List.cons_append, List.map_nil, List.map_cons]
   rw [hbk]
   clear hok hs hs2 hn hn2 hl5 hll hrll hst ha hxk hbs hp1 hp2 ht hnd hc hpl hk0 hf hg1 hg2 hBl hT1 hT2
   simp only [List.length_cons, List.length_nil] at hrfn
   refine acA tab mix Tryz.func7 ⟨[5], []⟩ ?_
   refine EffG.mk (And.intro hTa ?_)
   refine go ?_
   refine fR fM (is wh) (is (ar, r)) hr32 hrf (fun za zr hz => ?_)
   iterate 3 (refine brN ?_ (h := decide_eq_false (fun e => absurd (hk.symm.trans e) (by decide))); refine go ?_)
   refine brY ?_ (h := decide_eq_true hk)
   refine go ?_
   refine go ?_
   refine bG hp [1, 2, 3, 4, 11] ?_ (hargs := by rw [← hpos]; first | rfl | (simp only [D.rens, D.ren, aL]; rfl))
   refine bG hd [9] ?_ (hargs := by rw [← hpos]; rfl)
   refine kT [0, 1, 2, 3, 4, 5, 6, 7, 8, 9, 10, 11, 2, 3, 10, 4, 9]
set_option maxHeartbeats 4000000 in
theorem aBJ (hb : 0 < a.bs.length ∧ (a.n % 20000#32).toNat + a.bs.length ≤ 32768 ∧ (a.n % 20000#32).toNat + a.bs.length ≤ y.N ∧ y.N2 < (a.n % 20000#32).toNat + a.bs.length) :
  ∃ y' : WSt, y'.ok (i + 1) ∧ AC Tryz.prog 7 [.ptr 0 [], cT 11 a] 12 (woM p k1 k2 tag y a.bs) (woO p k1 k2 tag y y') := by
 obtain ⟨S, S2, N, N2, cap, cap2, ls, rl, st, rf⟩ := y
 have hTa := ha.ty 11
 have hcls := hy.cls
 have hok := hy
 obtain ⟨hs, hs2, hn, hn2, hl5, hll, hrll, hst, hrfn, hrf, _⟩ := hy
 dsimp only at hcls hs hs2 hn hn2 hl5 hll hrll hst hrfn hrf
 have hT := aM (c := 8) (p := p) h1 h2 ht
 have hr32 := ha.r
 have hbs := ha.b
 have hxk := ha.x
 have hnd := ha.nd
 obtain ⟨kd, an, bs, x, nd, wh, ar, r⟩ := a
 dsimp only at hk hr32 hbs hxk hnd
 obtain ⟨k, hbk⟩ : ∃ k, bs.length = k := ⟨_, rfl⟩
 dsimp only [cT] at hTa
 rw [hbk] at hTa hbs hxk
 dsimp only at hc hb
 try rw [hbk] at hb
 try rw [hbk] at hc
 obtain ⟨pos, hpos⟩ : ∃ pos, (an % 20000#32).toNat = pos := ⟨_, rfl⟩
 have hpl : pos < 20000 := by rw [← hpos, BitVec.toNat_umod]; exact Nat.mod_lt _ (by decide)
 rw [hpos] at hc
 try rw [hpos] at hb
 obtain ⟨hk0, hf, hg1, hg2⟩ := hb
 have hBl : (List.take k (List.drop 0 bs)).length = k := by rw [List.drop_zero, List.length_take]; omega
 have hll : ∀ Q, aD2 Q (List.take k (List.drop 0 bs)) pos = aV Q (List.take k (List.drop 0 bs)) pos := fun Q => if_neg (by omega)
 have hp := fun cx => aEb 32768 N cap N2 cap2 ls st pos 0 k (some cx) S S2 bs hs hs2 hc (by omega) (by omega) (by omega) hk0 hf hn hn2 (by omega)
 have hd := kV 32768 S S2 (List.take k (List.drop 0 bs)) (aT 0 rl) st pos (bD 0 rl) (by omega) (by omega) (by omega) (by omega) (by omega)
 rw [hll, hll] at hd
 have hT1 := aU (S := S) (B := (List.take k (List.drop 0 bs))) (p := pos)
 have hT2 := aU (S := S2) (B := (List.take k (List.drop 0 bs))) (p := pos)
 clear hll
 generalize aV S (List.take k (List.drop 0 bs)) pos = T at hp hd hT1
 generalize aV S2 (List.take k (List.drop 0 bs)) pos = T2 at hp hd hT2
 refine ⟨⟨T, T2, N, pos + k, cap, none, ls, rl, st, rf⟩, hok.lay _ _ (by rw [hT1, hs, hBl]; omega) (by rw [hT2, hs2, hBl]; omega) (by omega) (by omega), ?_⟩
 cases x with
 |none =>
  have := hxk rfl; omega
 |some cx =>
  have hp := hp cx
  have fM : Is (fun z : BitVec 32 × B8 => ((13, some ⟨gU, aB z.1 z.2, true⟩) :: (12, some ⟨eA, D.node [.u8 kd, .u32 an, slD 11 k (some cx), nd.D, .u8 wh, aB ar r], true⟩) :: woM p k1 k2 tag ⟨S, S2, N, N2, cap, cap2, ls, rl, st, rf⟩ bs : Mem)) := is _
  rcases hcls with ⟨rfl, rfl, rfl⟩ | ⟨rfl, rfl, r0, rs, rfl⟩ | ⟨l0, ls, q0, rl, r0, rs, rfl, rfl, rfl⟩
  all_goals
   dsimp only [woM, woO, woW, dvW, cT, rfL, aT, oT, cX, dU, oL, eG, rfM, rfN, loN, rlN, List.nil_append, List.cons_append, List.map_nil, List.map_cons]
   rw [hbk]
   clear hok hs hs2 hn hn2 hl5 hll hrll hst ha hxk hbs hp1 hp2 ht hnd hc hpl hk0 hf hg1 hg2 hBl hT1 hT2
   simp only [List.length_cons, List.length_nil] at hrfn
   refine acA tab mix Tryz.func7 ⟨[5], []⟩ ?_
   refine EffG.mk (And.intro hTa ?_)
   refine go ?_
   refine fR fM (is wh) (is (ar, r)) hr32 hrf (fun za zr hz => ?_)
   iterate 3 (refine brN ?_ (h := decide_eq_false (fun e => absurd (hk.symm.trans e) (by decide))); refine go ?_)
   refine brY ?_ (h := decide_eq_true hk)
   refine go ?_
   refine go ?_
   refine bG hp [1, 2, 3, 4, 11] ?_ (hargs := by rw [← hpos]; first | rfl | (simp only [D.rens, D.ren, aL]; rfl))
   refine bG hd [9] ?_ (hargs := by rw [← hpos]; rfl)
   refine kT [0, 1, 2, 3, 4, 5, 6, 7, 8, 9, 10, 11, 2, 14, 10, 4, 9]
set_option maxHeartbeats 4000000 in
theorem aBI (hb : 0 < a.bs.length ∧ (a.n % 20000#32).toNat + a.bs.length ≤ 32768 ∧ y.N < (a.n % 20000#32).toNat + a.bs.length ∧ (a.n % 20000#32).toNat + a.bs.length ≤ y.N2) :
  ∃ y' : WSt, y'.ok (i + 1) ∧ AC Tryz.prog 7 [.ptr 0 [], cT 11 a] 12 (woM p k1 k2 tag y a.bs) (woO p k1 k2 tag y y') := by
 obtain ⟨S, S2, N, N2, cap, cap2, ls, rl, st, rf⟩ := y
 have hTa := ha.ty 11
 have hcls := hy.cls
 have hok := hy
 obtain ⟨hs, hs2, hn, hn2, hl5, hll, hrll, hst, hrfn, hrf, _⟩ := hy
 dsimp only at hcls hs hs2 hn hn2 hl5 hll hrll hst hrfn hrf
 have hT := aM (c := 8) (p := p) h1 h2 ht
 have hr32 := ha.r
 have hbs := ha.b
 have hxk := ha.x
 have hnd := ha.nd
 obtain ⟨kd, an, bs, x, nd, wh, ar, r⟩ := a
 dsimp only at hk hr32 hbs hxk hnd
 obtain ⟨k, hbk⟩ : ∃ k, bs.length = k := ⟨_, rfl⟩
 dsimp only [cT] at hTa
 rw [hbk] at hTa hbs hxk
 dsimp only at hc hb
 try rw [hbk] at hb
 try rw [hbk] at hc
 obtain ⟨pos, hpos⟩ : ∃ pos, (an % 20000#32).toNat = pos := ⟨_, rfl⟩
 have hpl : pos < 20000 := by rw [← hpos, BitVec.toNat_umod]; exact Nat.mod_lt _ (by decide)
 rw [hpos] at hc
 try rw [hpos] at hb
 obtain ⟨hk0, hf, hg1, hg2⟩ := hb
 have hBl : (List.take k (List.drop 0 bs)).length = k := by rw [List.drop_zero, List.length_take]; omega
 have hll : ∀ Q, aD2 Q (List.take k (List.drop 0 bs)) pos = aV Q (List.take k (List.drop 0 bs)) pos := fun Q => if_neg (by omega)
 have hp := fun cx => aEa 32768 N cap N2 cap2 ls st pos 0 k (some cx) S S2 bs hs hs2 hc (by omega) (by omega) (by omega) hk0 hf hn hn2 (by omega)
 have hd := kV 32768 S S2 (List.take k (List.drop 0 bs)) (aT 0 rl) st pos (bD 0 rl) (by omega) (by omega) (by omega) (by omega) (by omega)
 rw [hll, hll] at hd
 have hT1 := aU (S := S) (B := (List.take k (List.drop 0 bs))) (p := pos)
 have hT2 := aU (S := S2) (B := (List.take k (List.drop 0 bs))) (p := pos)
 clear hll
 generalize aV S (List.take k (List.drop 0 bs)) pos = T at hp hd hT1
 generalize aV S2 (List.take k (List.drop 0 bs)) pos = T2 at hp hd hT2
 refine ⟨⟨T, T2, pos + k, N2, none, cap2, ls, rl, st, rf⟩, hok.lay _ _ (by rw [hT1, hs, hBl]; omega) (by rw [hT2, hs2, hBl]; omega) (by omega) (by omega), ?_⟩
 cases x with
 |none =>
  have := hxk rfl; omega
 |some cx =>
  have hp := hp cx
  have fM : Is (fun z : BitVec 32 × B8 => ((13, some ⟨gU, aB z.1 z.2, true⟩) :: (12, some ⟨eA, D.node [.u8 kd, .u32 an, slD 11 k (some cx), nd.D, .u8 wh, aB ar r], true⟩) :: woM p k1 k2 tag ⟨S, S2, N, N2, cap, cap2, ls, rl, st, rf⟩ bs : Mem)) := is _
  rcases hcls with ⟨rfl, rfl, rfl⟩ | ⟨rfl, rfl, r0, rs, rfl⟩ | ⟨l0, ls, q0, rl, r0, rs, rfl, rfl, rfl⟩
  all_goals
   dsimp only [woM, woO, woW, dvW, cT, rfL, aT, oT, cX, dU, oL, eG, rfM, rfN, loN, rlN, List.nil_append, List.cons_append, List.map_nil, List.map_cons]
   rw [hbk]
   clear hok hs hs2 hn hn2 hl5 hll hrll hst ha hxk hbs hp1 hp2 ht hnd hc hpl hk0 hf hg1 hg2 hBl hT1 hT2
   simp only [List.length_cons, List.length_nil] at hrfn
   refine acA tab mix Tryz.func7 ⟨[5], []⟩ ?_
   refine EffG.mk (And.intro hTa ?_)
   refine go ?_
   refine fR fM (is wh) (is (ar, r)) hr32 hrf (fun za zr hz => ?_)
   iterate 3 (refine brN ?_ (h := decide_eq_false (fun e => absurd (hk.symm.trans e) (by decide))); refine go ?_)
   refine brY ?_ (h := decide_eq_true hk)
   refine go ?_
   refine go ?_
   refine bG hp [1, 2, 3, 4, 11] ?_ (hargs := by rw [← hpos]; first | rfl | (simp only [D.rens, D.ren, aL]; rfl))
   refine bG hd [9] ?_ (hargs := by rw [← hpos]; rfl)
   refine kT [0, 1, 2, 3, 4, 5, 6, 7, 8, 9, 10, 11, 14, 3, 10, 4, 9]
set_option maxHeartbeats 4000000 in
theorem aBH (hb : 0 < a.bs.length ∧ (a.n % 20000#32).toNat + a.bs.length ≤ 32768 ∧ y.N < (a.n % 20000#32).toNat + a.bs.length ∧ y.N2 < (a.n % 20000#32).toNat + a.bs.length) :
  ∃ y' : WSt, y'.ok (i + 1) ∧ AC Tryz.prog 7 [.ptr 0 [], cT 11 a] 12 (woM p k1 k2 tag y a.bs) (woO p k1 k2 tag y y') := by
 obtain ⟨S, S2, N, N2, cap, cap2, ls, rl, st, rf⟩ := y
 have hTa := ha.ty 11
 have hcls := hy.cls
 have hok := hy
 obtain ⟨hs, hs2, hn, hn2, hl5, hll, hrll, hst, hrfn, hrf, _⟩ := hy
 dsimp only at hcls hs hs2 hn hn2 hl5 hll hrll hst hrfn hrf
 have hT := aM (c := 8) (p := p) h1 h2 ht
 have hr32 := ha.r
 have hbs := ha.b
 have hxk := ha.x
 have hnd := ha.nd
 obtain ⟨kd, an, bs, x, nd, wh, ar, r⟩ := a
 dsimp only at hk hr32 hbs hxk hnd
 obtain ⟨k, hbk⟩ : ∃ k, bs.length = k := ⟨_, rfl⟩
 dsimp only [cT] at hTa
 rw [hbk] at hTa hbs hxk
 dsimp only at hc hb
 try rw [hbk] at hb
 try rw [hbk] at hc
 obtain ⟨pos, hpos⟩ : ∃ pos, (an % 20000#32).toNat = pos := ⟨_, rfl⟩
 have hpl : pos < 20000 := by rw [← hpos, BitVec.toNat_umod]; exact Nat.mod_lt _ (by decide)
 rw [hpos] at hc
 try rw [hpos] at hb
 obtain ⟨hk0, hf, hg1, hg2⟩ := hb
 have hBl : (List.take k (List.drop 0 bs)).length = k := by rw [List.drop_zero, List.length_take]; omega
 have hll : ∀ Q, aD2 Q (List.take k (List.drop 0 bs)) pos = aV Q (List.take k (List.drop 0 bs)) pos := fun Q => if_neg (by omega)
 have hp := fun cx => aE9 32768 N cap N2 cap2 ls st pos 0 k (some cx) S S2 bs hs hs2 hc (by omega) (by omega) (by omega) hk0 hf hn hn2 (by omega)
 have hd := kV 32768 S S2 (List.take k (List.drop 0 bs)) (aT 0 rl) st pos (bD 0 rl) (by omega) (by omega) (by omega) (by omega) (by omega)
 rw [hll, hll] at hd
 have hT1 := aU (S := S) (B := (List.take k (List.drop 0 bs))) (p := pos)
 have hT2 := aU (S := S2) (B := (List.take k (List.drop 0 bs))) (p := pos)
 clear hll
 generalize aV S (List.take k (List.drop 0 bs)) pos = T at hp hd hT1
 generalize aV S2 (List.take k (List.drop 0 bs)) pos = T2 at hp hd hT2
 refine ⟨⟨T, T2, pos + k, pos + k, none, none, ls, rl, st, rf⟩, hok.lay _ _ (by rw [hT1, hs, hBl]; omega) (by rw [hT2, hs2, hBl]; omega) (by omega) (by omega), ?_⟩
 cases x with
 |none =>
  have := hxk rfl; omega
 |some cx =>
  have hp := hp cx
  have fM : Is (fun z : BitVec 32 × B8 => ((13, some ⟨gU, aB z.1 z.2, true⟩) :: (12, some ⟨eA, D.node [.u8 kd, .u32 an, slD 11 k (some cx), nd.D, .u8 wh, aB ar r], true⟩) :: woM p k1 k2 tag ⟨S, S2, N, N2, cap, cap2, ls, rl, st, rf⟩ bs : Mem)) := is _
  rcases hcls with ⟨rfl, rfl, rfl⟩ | ⟨rfl, rfl, r0, rs, rfl⟩ | ⟨l0, ls, q0, rl, r0, rs, rfl, rfl, rfl⟩
  all_goals
   dsimp only [woM, woO, woW, dvW, cT, rfL, aT, oT, cX, dU, oL, eG, rfM, rfN, loN, rlN, List.nil_append, List.cons_append, List.map_nil, List.map_cons]
   rw [hbk]
   clear hok hs hs2 hn hn2 hl5 hll hrll hst ha hxk hbs hp1 hp2 ht hnd hc hpl hk0 hf hg1 hg2 hBl hT1 hT2
   simp only [List.length_cons, List.length_nil] at hrfn
   refine acA tab mix Tryz.func7 ⟨[5], []⟩ ?_
   refine EffG.mk (And.intro hTa ?_)
   refine go ?_
   refine fR fM (is wh) (is (ar, r)) hr32 hrf (fun za zr hz => ?_)
   iterate 3 (refine brN ?_ (h := decide_eq_false (fun e => absurd (hk.symm.trans e) (by decide))); refine go ?_)
   refine brY ?_ (h := decide_eq_true hk)
   refine go ?_
   refine go ?_
   refine bG hp [1, 2, 3, 4, 11] ?_ (hargs := by rw [← hpos]; first | rfl | (simp only [D.rens, D.ren, aL]; rfl))
   refine bG hd [9] ?_ (hargs := by rw [← hpos]; rfl)
   refine kT [0, 1, 2, 3, 4, 5, 6, 7, 8, 9, 10, 11, 14, 15, 10, 4, 9]
end
end
end
theorem AC.lift {P : Program} {f : Nat} {args : List D} {np : Nat} {m0 : Mem} {r : D} (hac : AC P f args np m0 ⟨r, [], []⟩) (σ : List Nat) (np' : Nat) (m' : Mem) (hm : cP (sig np np' 0 σ) m' m0) (hn : cW np (sig np np' 0 σ) m0 m0 = true := by rfl) (h1 : np ≤ 999999 := by decide) (h2 : np' ≤ 999999 := by decide) : AC P f (D.rens (sig np np' 0 σ) args) np' m' ⟨r.ren (sig np np' 0 σ), [], []⟩ := by
 refine ⟨hac.1, fun ρ1 w0 vals hvals hI hd => ?_⟩
 have hres : ρ1 999999 = none := by
  cases h : ρ1 999999 with
  |none => rfl
  |some L =>
   have := hd 999999 (by rw [h]; simp)
   rcases this with h | h <;> omega
 refine (wQ (X := ⟨w0, uA ρ1 m'⟩) hI hac (nx := np') (σ := σ) hres (fun i h1 h2 => absurd h2 (by show ¬ i < np' + 0; omega)) (by show np' + 0 ≤ 999999; omega) (by show np + 0 ≤ 999999; omega) hm hn rfl hvals).mono ?_
 rintro e w' ⟨v, ρ', he, hle, hnew, hrep, hinv⟩
 refine ⟨v, ρ', he, fun i _ => ?_, fun i h => ?_, hrep, hinv⟩
 ·cases h : ρ1 i with
  |some L => exact hle i L h
  |none =>
   cases h' : ρ' i with
   |none => rfl
   |some L =>
    rcases hnew i (by rw [h']; simp) with h3 | ⟨h3, h4⟩
    ·exact absurd h h3
    ·exfalso; have h4 : i < np' + 0 := h4; omega
 ·rcases hnew i h with h3 | ⟨h3, h4⟩
  ·rcases hd i h3 with h | h
   ·exact .inl (Nat.lt_of_lt_of_le h (Nat.le_add_right _ _))
   ·exact .inr h
  ·exfalso; have h4 : i < np' + 0 := h4; omega
section
variable (p : Nat) (hp1 : 1 ≤ p) (hp2 : p ≤ 2) (k1 k2 : List B8) (tag : B8) (h1 : Rows 15 16 k1) (h2 : Rows 15 16 k2) (ht : tag.length = 32) (S S2 : B8) (N N2 : Nat) (cap cap2 : Option Nat) (ls : List Lo) (rl : List RLo) (st : Nat) (hs : S.length = N) (hn : N ≤ 32768) (hl5 : ∀ x ∈ ls, x.bytes.length = 512) (hll : ls.length ≤ 900) (hst : st ≤ 900) (n : BitVec 32)
include p hp1 hp2 k1 k2 tag h1 h2 ht S S2 N N2 cap cap2 ls rl st hs hn hl5 hll hst n
theorem aKI (B : B8) (x : Option Nat) (hx : x = none → B.length = 0) (hB : B.length ≤ 20000) (h : 65535 < n.toNat ∨ B.length ≠ 512 * p ∨ N < 512 * (8 + n.toNat * p) ∨ 32768 < 512 * (8 + n.toNat * p) + 512 * p) :
  ∃ e : Int, e ≠ 0 ∧ inI e ∧ AC Tryz.prog 11 [.ptr 4 [], .u32 n, slD 8 B.length x] 9 (fJ 8 p tag k1 k2 32768 N cap N2 cap2 ls st S ++ [(8, some ⟨.row .cell, .u8s B, false⟩)]) ⟨.tup [aB 0 (List.replicate 32 0), .i64 e], [], []⟩ ∧
   AC Tryz.prog 25 [eC 8 p k1 k2 tag, bU 32768 S S2 (aT 1 rl) st, .u32 n, slD 0 B.length x] 2 ((0, some ⟨.row .cell, .u8s B, false⟩) :: gBK) ⟨.tup [bU 32768 S S2 (aT 1 rl) st, aB 0 (List.replicate 32 0), .i64 e], [], []⟩ := by
 by_cases hA : 65535 < n.toNat ∨ B.length ≠ 512 * p
 ·have hp := rP 8 p tag n B.length x hx hA hp1 hp2 (by omega)
  have hd := z9 8 32768 p k1 k2 tag n h1 h2 ht hp1 hp2 S S2 B.length x hx hA (by omega) rl st
  refine ⟨2, by decide, ⟨by decide, by decide⟩, ?_, ?_⟩
  ·cases ls <;> cases x
   all_goals exact AC.lift hp [4, 0, 5, 8] 9 _ (by (repeat' (first | exact trivial | refine And.intro ⟨_, rfl, rfl, ?_, id⟩ ?_ | refine And.intro ⟨_, rfl, rfl, ?_, fun _ => rfl⟩ ?_)) <;> rfl)
  ·have hd := AC.lift hd [0, 1] 2 ((0, some ⟨.row .cell, .u8s B, false⟩) :: gBK) trivial
   simp only [D.rens, D.ren, aL, aC] at hd
   cases rl <;> cases x <;> exact hd
 ·have hBl : B.length = 512 * p := by omega
  obtain ⟨cx, rfl⟩ : ∃ cx, x = some cx := by
   cases x with
   |none => have := hx rfl; omega
   |some cx => exact ⟨cx, rfl⟩
  obtain ⟨q, hq⟩ : ∃ q, q = 8 + n.toNat * p := ⟨_, rfl⟩
  rw [← hq] at h
  rw [hBl]
  by_cases hR : N < 512 * q
  ·exact ⟨40, by decide, ⟨by decide, by decide⟩, uM 8 p hp1 hp2 tag k1 k2 32768 N cap N2 cap2 ls st S n q B 0 (some cx) (by omega) (by omega) h1 h2 hq (by decide) (by decide) ht hl5 hs (by omega) hR hn (by decide) (by omega) (by omega), uX 8 32768 p k1 k2 tag n q hq h1 h2 ht (by decide) (by decide) hp1 hp2 (by omega) S S2 B hBl rl st cx (by omega) (by decide) (by omega)⟩
  ·exact ⟨21, by decide, ⟨by decide, by decide⟩, uN 8 p hp1 hp2 tag k1 k2 32768 N cap N2 cap2 ls st S n q B 0 (some cx) (by omega) (by omega) h1 h2 hq (by decide) (by decide) ht hl5 hs (by omega) (by omega) (by omega) hn (by decide) (by omega) (by omega), uY 8 32768 p k1 k2 tag n q hq h1 h2 ht (by decide) (by decide) hp1 hp2 (by omega) S S2 B hBl rl st cx (by omega) (by decide) (by omega) (by omega)⟩
theorem aKG (B : B8) (cx : Nat) (hB : B.length ≤ 20000) (h : 65535 < n.toNat ∨ 512 * p < B.length ∨ N < 512 * (8 + n.toNat * p) ∨ 32768 < 512 * (8 + n.toNat * p) + 512 * p) :
  ∃ e : Int, e ≠ 0 ∧ inI e ∧ AC Tryz.prog 28 [.ptr 4 [], .u32 n, .slice 8 [] 0 B.length (some cx)] 9 (fJ 8 p tag k1 k2 32768 N cap N2 cap2 ls st S ++ [(8, some ⟨.row .cell, .u8s B, false⟩)]) ⟨.tup [aB 0 (List.replicate 32 0), .i64 e], [], []⟩ ∧
   AC Tryz.prog 29 [eC 8 p k1 k2 tag, bU 32768 S S2 (aT 1 rl) st, .u32 n, .slice 0 [] 0 B.length (some cx)] 2 ((0, some ⟨.row .cell, .u8s B, false⟩) :: [gK]) ⟨.tup [bU 32768 S S2 (aT 1 rl) st, aB 0 (List.replicate 32 0), .i64 e], [], []⟩ := by
 by_cases hL : 512 * p < B.length
 ·have hd := zY 8 32768 p k1 k2 tag n h1 h2 ht hp2 S S2 B.length hL (by omega) rl st (some cx)
  refine ⟨2, by decide, ⟨by decide, by decide⟩, ?_, ?_⟩
  ·by_cases hA : 65535 < n.toNat
   ·have hp := f7 n hA (.slice 1 [] 0 B.length (some cx)) (.inr ⟨_, _, _, rfl⟩)
    exact AC.lift hp [4, 8] 9 _ trivial
   ·have hp := zJ 8 p tag n (by omega) 0 B.length (some cx) hL hp2
    cases ls
    all_goals exact AC.lift hp [4, 0, 5, 8] 9 _ (by (repeat' (first | exact trivial | refine And.intro ⟨_, rfl, rfl, ?_, id⟩ ?_ | refine And.intro ⟨_, rfl, rfl, ?_, fun _ => rfl⟩ ?_)) <;> rfl)
  ·have hd := AC.lift hd [0, 1] 2 ((0, some ⟨.row .cell, .u8s B, false⟩) :: [gK]) trivial
   simp only [D.rens, D.ren, aL, aC] at hd
   cases rl <;> exact hd
 ·by_cases hA : 65535 < n.toNat
  ·have hp := f7 n hA (.slice 1 [] 0 B.length (some cx)) (.inr ⟨_, _, _, rfl⟩)
   exact ⟨2, by decide, ⟨by decide, by decide⟩, AC.lift hp [4, 8] 9 _ trivial, zZ 8 32768 p k1 k2 tag n h1 h2 ht hp1 hp2 hA S S2 B B.length rfl (by omega) rl st (some cx)⟩
  ·obtain ⟨q, hq⟩ : ∃ q, q = 8 + n.toNat * p := ⟨_, rfl⟩
   rw [← hq] at h
   by_cases hR : N < 512 * q
   ·exact ⟨40, by decide, ⟨by decide, by decide⟩, uD 8 p hp1 hp2 tag k1 k2 32768 N cap N2 cap2 ls st S n q B 0 B.length (some cx) (by omega) (by omega) hq (by decide) (by decide) ht hl5 hs (by omega) hR hn (by decide) (by omega) (by omega), uT 8 32768 p k1 k2 tag n q hq h1 h2 ht (by decide) (by decide) hp1 hp2 (by omega) S S2 B B.length rfl (by omega) rl st (some cx) (by omega) (by decide) (by omega)⟩
   ·exact ⟨21, by decide, ⟨by decide, by decide⟩, uE 8 p hp1 hp2 tag k1 k2 32768 N cap N2 cap2 ls st S n q B 0 B.length (some cx) (by omega) (by omega) hq (by decide) (by decide) ht hl5 hs (by omega) (by omega) (by omega) hn (by decide) (by omega) (by omega), uU 8 32768 p k1 k2 tag n q hq h1 h2 ht (by decide) (by decide) hp1 hp2 (by omega) S S2 B B.length rfl (by omega) rl st (some cx) (by omega) (by decide) (by omega) (by omega)⟩
theorem aIW (h : 65535 < n.toNat ∨ N < 512 * (8 + n.toNat * p) ∨ 32768 < 512 * (8 + n.toNat * p) + 512 * p) :
  ∃ e : Int, e ≠ 0 ∧ inI e ∧ AC Tryz.prog 28 [.ptr 4 [], .u32 n, .nilslice] 8 (fJ 8 p tag k1 k2 32768 N cap N2 cap2 ls st S) ⟨.tup [aB 0 (List.replicate 32 0), .i64 e], [], []⟩ ∧
   AC Tryz.prog 29 [eC 8 p k1 k2 tag, bU 32768 S S2 (aT 1 rl) st, .u32 n, .nilslice] 2 [gK] ⟨.tup [bU 32768 S S2 (aT 1 rl) st, aB 0 (List.replicate 32 0), .i64 e], [], []⟩ := by
 by_cases hA : 65535 < n.toNat
 ·have hp := f7 n hA .nilslice (.inl rfl)
  exact ⟨2, by decide, ⟨by decide, by decide⟩, AC.lift hp [4, 0] 8 _ trivial, w9 8 32768 p k1 k2 tag n h1 h2 ht hp1 hp2 hA S S2 rl st⟩
 ·obtain ⟨q, hq⟩ : ∃ q, q = 8 + n.toNat * p := ⟨_, rfl⟩
  rw [← hq] at h
  by_cases hR : N < 512 * q
  ·exact ⟨40, by decide, ⟨by decide, by decide⟩, rL 8 p hp1 hp2 tag k1 k2 32768 N cap N2 cap2 ls st S n q hq (by decide) (by decide) ht hl5 hs (by omega) hR hn (by decide) (by omega) (by omega), sG 8 32768 p k1 k2 tag n q hq h1 h2 ht (by decide) (by decide) hp1 hp2 (by omega) S S2 rl st (by omega) (by decide) (by omega)⟩
  ·exact ⟨21, by decide, ⟨by decide, by decide⟩, rM 8 p hp1 hp2 tag k1 k2 32768 N cap N2 cap2 ls st S n q hq (by decide) (by decide) ht hl5 hs (by omega) (by omega) (by omega) hn (by decide) (by omega) (by omega), sH 8 32768 p k1 k2 tag n q hq h1 h2 ht (by decide) (by decide) hp1 hp2 (by omega) S S2 rl st (by omega) (by decide) (by omega) (by omega)⟩
end
theorem zK (n : BitVec 32) (hn : 65535 < n.toNat) (a0 a1 a2 a3 a4 a5 a6 a7 : BitVec 32) (s0 s1 s2 s3 s4 s5 s6 s7 : B8) (g0 : s0.length = 32) (g1 : s1.length = 32) (g2 : s2.length = 32) (g3 : s3.length = 32) (g4 : s4.length = 32) (g5 : s5.length = 32) (g6 : s6.length = 32) (g7 : s7.length = 32) :
  AC Tryz.prog 26 [.ptr 0 [], .u32 n, eR a0 a1 a2 a3 a4 a5 a6 a7 s0 s1 s2 s3 s4 s5 s6 s7] 1 [] ⟨.tup [aB 0 (List.replicate 32 0), .i64 2], [], []⟩ := by
 have hpt := oO a0 a1 a2 a3 a4 a5 a6 a7 s0 s1 s2 s3 s4 s5 s6 s7 g0 g1 g2 g3 g4 g5 g6 g7
 generalize bA a0 a1 a2 a3 a4 a5 a6 a7 s0 s1 s2 s3 s4 s5 s6 s7 = B at hpt
 have h := zL 49 n hn (.slice 1 [] 0 288 none) (.inr ⟨_, _, _, rfl⟩)
 refine acA tab mix Tryz.func26 {} ?_
 refine gob ?_
 refine aA hpt [] ?_
 refine aA h [0, 3] ?_
 refine aI [0]
theorem aKH (p : Nat) (hp1 : 1 ≤ p) (hp2 : p ≤ 2) (k1 k2 : List B8) (tag : B8) (h1 : Rows 15 16 k1) (h2 : Rows 15 16 k2) (ht : tag.length = 32) (S S2 : B8) (N N2 : Nat) (cap cap2 : Option Nat) (ls : List Lo) (rl : List RLo) (st : Nat) (hs : S.length = N) (hn : N ≤ 32768) (hl5 : ∀ x ∈ ls, x.bytes.length = 512) (hll : ls.length ≤ 900) (hst : st ≤ 900) (n : BitVec 32) (a0 a1 a2 a3 a4 a5 a6 a7 : BitVec 32) (s0 s1 s2 s3 s4 s5 s6 s7 : B8) (g0 : s0.length = 32) (g1 : s1.length = 32) (g2 : s2.length = 32) (g3 : s3.length = 32) (g4 : s4.length = 32) (g5 : s5.length = 32) (g6 : s6.length = 32) (g7 : s7.length = 32) (h : 65535 < n.toNat ∨ N < 512 * (8 + n.toNat * p) ∨ 32768 < 512 * (8 + n.toNat * p) + 512 * p) :
  ∃ e : Int, e ≠ 0 ∧ inI e ∧ AC Tryz.prog 26 [.ptr 4 [], .u32 n, eR a0 a1 a2 a3 a4 a5 a6 a7 s0 s1 s2 s3 s4 s5 s6 s7] 8 (fJ 8 p tag k1 k2 32768 N cap N2 cap2 ls st S) ⟨.tup [aB 0 (List.replicate 32 0), .i64 e], [], []⟩ ∧
   AC Tryz.prog 27 [eC 8 p k1 k2 tag, bU 32768 S S2 (aT 1 rl) st, .u32 n, eR a0 a1 a2 a3 a4 a5 a6 a7 s0 s1 s2 s3 s4 s5 s6 s7] 2 [gK] ⟨.tup [bU 32768 S S2 (aT 1 rl) st, aB 0 (List.replicate 32 0), .i64 e], [], []⟩ := by
 by_cases hA : 65535 < n.toNat
 ·have hp := zK n hA a0 a1 a2 a3 a4 a5 a6 a7 s0 s1 s2 s3 s4 s5 s6 s7 g0 g1 g2 g3 g4 g5 g6 g7
  exact ⟨2, by decide, ⟨by decide, by decide⟩, AC.lift hp [4] 8 _ trivial, z8 8 32768 p k1 k2 tag n h1 h2 ht hp1 hp2 hA a0 a1 a2 a3 a4 a5 a6 a7 s0 s1 s2 s3 s4 s5 s6 s7 g0 g1 g2 g3 g4 g5 g6 g7 S S2 rl st⟩
 ·obtain ⟨q, hq⟩ : ∃ q, q = 8 + n.toNat * p := ⟨_, rfl⟩
  rw [← hq] at h
  by_cases hR : N < 512 * q
  ·exact ⟨40, by decide, ⟨by decide, by decide⟩, uI 8 p hp1 hp2 tag k1 k2 32768 N cap N2 cap2 ls st S n q a0 a1 a2 a3 a4 a5 a6 a7 s0 s1 s2 s3 s4 s5 s6 s7 g0 g1 g2 g3 g4 g5 g6 g7 hq (by decide) (by decide) ht hl5 hs (by omega) hR hn (by decide) (by omega) (by omega), uV 8 32768 p k1 k2 tag n q hq h1 h2 ht (by decide) (by decide) hp1 hp2 (by omega) a0 a1 a2 a3 a4 a5 a6 a7 s0 s1 s2 s3 s4 s5 s6 s7 g0 g1 g2 g3 g4 g5 g6 g7 S S2 rl st (by omega) (by decide) (by omega)⟩
  ·exact ⟨21, by decide, ⟨by decide, by decide⟩, uJ 8 p hp1 hp2 tag k1 k2 32768 N cap N2 cap2 ls st S n q a0 a1 a2 a3 a4 a5 a6 a7 s0 s1 s2 s3 s4 s5 s6 s7 g0 g1 g2 g3 g4 g5 g6 g7 hq (by decide) (by decide) ht hl5 hs (by omega) (by omega) (by omega) hn (by decide) (by omega) (by omega), uW 8 32768 p k1 k2 tag n q hq h1 h2 ht (by decide) (by decide) hp1 hp2 (by omega) a0 a1 a2 a3 a4 a5 a6 a7 s0 s1 s2 s3 s4 s5 s6 s7 g0 g1 g2 g3 g4 g5 g6 g7 S S2 rl st (by omega) (by decide) (by omega) (by omega)⟩
theorem i5 (r0 : BitVec 32 × B8) (rs : List (BitVec 32 × B8)) (x : BitVec 32 × B8) : D.node (List.take (rs.length + 1) (List.drop 0 (rfD r0 :: rs.map rfD)) ++ List.take 1 (List.drop 0 [rfD x])) = rfsD (r0 :: (rs ++ [x])) := by
 have h : (rfD r0 :: rs.map rfD).length = rs.length + 1 := by rw [List.length_cons, List.length_map]
 rw [List.drop_zero, List.drop_zero, List.take_of_length_le (by omega), List.take_of_length_le (by simp)]
 simp [rfsD]
theorem fE {r0 : BitVec 32 × B8} {rs : List (BitVec 32 × B8)} {x : BitVec 32 × B8} (h : ∀ y ∈ r0 :: rs, y.2.length = 32) (hx : x.2.length = 32) : gV (aH gU) (List.take (rs.length + 1) (List.drop 0 (rfD r0 :: rs.map rfD)) ++ List.take 1 (List.drop 0 [rfD x])) := by
 have e := D.node.inj (i5 r0 rs x)
 rw [e]
 refine aI6 fun y hy => ?_
 rw [← List.cons_append, List.mem_append, List.mem_singleton] at hy
 rcases hy with hy | rfl
 ·exact h y hy
 ·exact hx
section
variable (p : Nat) (hp1 : 1 ≤ p) (hp2 : p ≤ 2) (k1 k2 : List B8) (tag : B8) (h1 : Rows 15 16 k1) (h2 : Rows 15 16 k2) (ht : tag.length = 32) (y : WSt) (i : Nat) (hi : i ≤ 20) (hy : y.ok i) (a : ActW) (ha : a.ok) (hk : a.kd % 8 = 0)
include p hp1 hp2 k1 k2 tag h1 h2 ht y i hi hy a ha hk
set_option maxHeartbeats 4000000 in
theorem u9 (hc : 65535 < a.n.toNat ∨ a.bs.length ≠ 512 * p ∨ y.N < 512 * (8 + a.n.toNat * p) ∨ 32768 < 512 * (8 + a.n.toNat * p) + 512 * p) :
  ∃ y' : WSt, y'.ok (i + 1) ∧ AC Tryz.prog 7 [.ptr 0 [], cT 11 a] 12 (woM p k1 k2 tag y a.bs) (woO p k1 k2 tag y y') := by
 obtain ⟨S, S2, N, N2, cap, cap2, ls, rl, st, rf⟩ := y
 have hTa := ha.ty 11
 have hcls := hy.cls
 have hok := hy
 obtain ⟨hs, hs2, hn, hn2, hl5, hll, hrll, hst, hrfn, hrf, _⟩ := hy
 dsimp only at hcls hs hs2 hn hn2 hl5 hll hrll hst hrfn hrf
 have hT := aM (c := 8) (p := p) h1 h2 ht
 have hr32 := ha.r
 have hbs := ha.b
 have hxk := ha.x
 have hnd := ha.nd
 obtain ⟨kd, an, bs, x, nd, wh, ar, r⟩ := a
 dsimp only at hk hr32 hbs hxk hnd
 obtain ⟨k, hbk⟩ : ∃ k, bs.length = k := ⟨_, rfl⟩
 dsimp only [cT] at hTa
 rw [hbk] at hTa hbs hxk
 dsimp only at hc
 obtain ⟨e, he, hei, hp, hd⟩ := aKI p hp1 hp2 k1 k2 tag h1 h2 ht S S2 N N2 cap cap2 ls rl st hs hn hl5 (by omega) (by omega) an bs x (by rw [hbk]; exact hxk) (by omega) hc
 rw [hbk] at hp hd
 have hef : decide (e = 0) = false := decide_eq_false he
 refine ⟨⟨S, S2, N, N2, cap, cap2, ls, rl, st, rf⟩, hok.mono, ?_⟩
 have fM : Is (fun z : BitVec 32 × B8 => ((13, some ⟨gU, aB z.1 z.2, true⟩) :: (12, some ⟨eA, D.node [.u8 kd, .u32 an, slD 11 k x, nd.D, .u8 wh, aB ar r], true⟩) :: woM p k1 k2 tag ⟨S, S2, N, N2, cap, cap2, ls, rl, st, rf⟩ bs : Mem)) := is _
 rcases hcls with ⟨rfl, rfl, rfl⟩ | ⟨rfl, rfl, r0, rs, rfl⟩ | ⟨l0, ls, q0, rl, r0, rs, rfl, rfl, rfl⟩
 all_goals
  dsimp only [woM, woO, woW, dvW, cT, rfL, aT, oT, cX, dU, oL, eG, rfM, rfN, loN, rlN, List.nil_append, List.cons_append, List.map_nil, List.map_cons]
  rw [hbk]
  clear hok hs hs2 hn hn2 hl5 hll hrll hst ha hxk hbs hp1 hp2 ht hnd hc
  simp only [List.length_cons, List.length_nil] at hrfn
  refine acA tab mix Tryz.func7 ⟨[5], []⟩ ?_
  refine EffG.mk (And.intro hTa ?_)
  refine go ?_
  refine fR fM (is wh) (is (ar, r)) hr32 hrf (fun za zr hz => ?_)
  iterate 5 (refine brN ?_ (h := decide_eq_false (fun e => absurd (hk.symm.trans e) (by decide))); refine go ?_)
  refine brY ?_ (h := decide_eq_true hk)
  refine go ?_
  refine qD hp [1, 2, 3, 4, 5, 6, 7, 8, 11] ?_
  refine yO hd [11, 9] ?_
  repeat first | refine go1 ?_ | refine Br.no hef ?_ | refine Br.yes (eO _ _) ?_ | refine Br.yes rfl ?_
  refine kT [0, 1, 2, 3, 4, 5, 6, 7, 8, 9, 10, 11, 2, 3, 10, 4, 9]
set_option maxHeartbeats 4000000 in
theorem aBM (hc : a.n.toNat ≤ 65535 ∧ a.bs.length = 512 * p ∧ 512 * (8 + a.n.toNat * p) ≤ y.N ∧ 512 * (8 + a.n.toNat * p) + 512 * p ≤ 32768 ∧ 512 * (8 + a.n.toNat * p) + 512 * p ≤ y.N) :
  ∃ y' : WSt, y'.ok (i + 1) ∧ AC Tryz.prog 7 [.ptr 0 [], cT 11 a] 12 (woM p k1 k2 tag y a.bs) (woO p k1 k2 tag y y') := by
 obtain ⟨S, S2, N, N2, cap, cap2, ls, rl, st, rf⟩ := y
 have hTa := ha.ty 11
 have hcls := hy.cls
 have hok := hy
 obtain ⟨hs, hs2, hn, hn2, hl5, hll, hrll, hst, hrfn, hrf, _⟩ := hy
 dsimp only at hcls hs hs2 hn hn2 hl5 hll hrll hst hrfn hrf
 have hT := aM (c := 8) (p := p) h1 h2 ht
 have hr32 := ha.r
 have hbs := ha.b
 have hxk := ha.x
 have hnd := ha.nd
 obtain ⟨kd, an, bs, x, nd, wh, ar, r⟩ := a
 dsimp only at hk hr32 hbs hxk hnd
 obtain ⟨k, hbk⟩ : ∃ k, bs.length = k := ⟨_, rfl⟩
 dsimp only [cT] at hTa
 rw [hbk] at hTa hbs hxk
 dsimp only at hc
 rw [hbk] at hc
 obtain ⟨q, hqn⟩ : ∃ q, q = 8 + an.toNat * p := ⟨_, rfl⟩
 rw [← hqn] at hc
 obtain ⟨hAn, hbl, hq, hf, hcl⟩ := hc
 obtain ⟨cx, rfl⟩ : ∃ cx, x = some cx := by
  cases x with
  |none => have := hxk rfl; omega
  |some cx => exact ⟨cx, rfl⟩
 subst hbl
 have hp := uP 8 p hp1 hp2 tag k1 k2 32768 N cap N2 cap2 ls st S an q bs 0 (some cx) (by omega) (by omega) h1 h2 hqn (by decide) (by decide) ht hl5 hs hAn hcl hn (by decide) (by omega) (by omega)
 have hd := jW 8 32768 p k1 k2 tag an q hqn h1 h2 ht (by decide) (by decide) hp1 hp2 hAn S S2 bs hbk rl st cx (by omega) (by decide) (by omega) (by omega) hf (by omega)
 have hQl : (eD k1 k2 bs 0 q p).length = 512 * p := cL k2 (by omega)
 generalize (eD k1 k2 bs 0 q p) = Q at hp hd hQl
 have hy := aR tag (an + 1) Q
 generalize bY tag (an + 1) Q = sm at hp hd hy
 have hTl := aU (S := S) (B := Q) (p := 512 * q)
 generalize aV S Q (512 * q) = T at hp hd hTl
 have hTl2 : T.length = N := by rw [hTl, hs, hQl]; omega
 have h5 := kA T q p hp1 hp2 (by omega)
 obtain ⟨la, ll, el, ell⟩ := cS ls (loP T q p) (d9 T q p hp1 hp2) hp1
 obtain ⟨ra, rll, er, erl⟩ := cS rl (rlP T q p) (d8 T q p hp1 hp2) hp1
 rw [el, ell] at hp
 rw [er, erl] at hd
 refine ⟨⟨T, S2, N, N2, cap, cap2, la :: ll, ra :: rll, st + 1, rf ++ [(an + 1, sm)]⟩, hok.put (rlo' := []) _ hp1 hp2 hTl2 (by omega) el ell h5 erl hy, ?_⟩
 have fM : Is (fun z : BitVec 32 × B8 => ((13, some ⟨gU, aB z.1 z.2, true⟩) :: (12, some ⟨eA, D.node [.u8 kd, .u32 an, slD 11 (512 * p) (some cx), nd.D, .u8 wh, aB ar r], true⟩) :: woM p k1 k2 tag ⟨S, S2, N, N2, cap, cap2, ls, rl, st, rf⟩ bs : Mem)) := is _
 rcases hcls with ⟨rfl, rfl, rfl⟩ | ⟨rfl, rfl, r0, rs, rfl⟩ | ⟨l0, ls, q0, rl, r0, rs, rfl, rfl, rfl⟩
 all_goals
  dsimp only [woM, woO, woW, dvW, cT, rfL, aT, oT, cX, dU, oL, eG, rfM, rfN, loN, rlN, List.nil_append, List.cons_append, List.map_nil, List.map_cons]
  rw [hbk]
  try rw [show (rs ++ [(an + 1, sm)]).length = rs.length + 1 from List.length_append]
  clear hok hs hs2 hn hn2 hl5 hll hrll hst ha hxk hbs hp1 hp2 ht hnd hQl hTl hTl2 hqn hq hcl h5 el er hAn hf ell erl
  simp only [List.length_cons, List.length_nil] at hrfn
  refine acA tab mix Tryz.func7 ⟨[5], []⟩ ?_
  refine EffG.mk (And.intro hTa ?_)
  refine go ?_
  refine fR fM (is wh) (is (ar, r)) hr32 hrf (fun za zr hz => ?_)
  iterate 5 (refine brN ?_ (h := decide_eq_false (fun e => absurd (hk.symm.trans e) (by decide))); refine go ?_)
  refine brY ?_ (h := decide_eq_true hk)
  refine go ?_
  refine qD hp [1, 2, 3, 4, 5, 6, 7, 8, 11] ?_
  refine aBV hd [11, 9] ?_
  first
   |have hty := fE (r0 := r0) (rs := rs) (x := (an + 1, sm)) hrf hy
    refine ⟨0, ?_⟩
    refine EffG.mk (And.intro ?_ ?_)
    ·(repeat' (first | exact hty | exact trivial | refine And.intro ?_ ?_)) <;> (first | omega | (simp only [aH, okP, xT, D.ren, D.isCell, Option.getD, List.length_set, List.length_take, List.length_drop, List.length_append, List.length_replicate, List.length_map, List.length_cons, List.length_nil, Option.map, j7, List.nil_append, D.pre, Out.pre] <;> omega) | exact hty | with_reducible rfl | decide)
    repeat first | refine go1 ?_ | refine Br.yes (eO _ _) ?_ | refine Br.yes rfl ?_
    refine kT [0, 1, 2, 3, 4, 5, 6, 7, 8, 9, 10, 11, 2, 3, 19, 16, 17] (h3 := (by (repeat' (first | exact trivial | refine And.intro ⟨_, rfl, rfl, ?_, id⟩ ?_ | refine And.intro ⟨_, rfl, rfl, ?_, fun _ => rfl⟩ ?_)) <;> (first | rfl | exact (Pure.ren _).symm | exact (Pure.ren _).trans (Pure.ren _).symm | (simp only [D.ren, D.rens, aL, aC]; rfl) | (refine Eq.trans ?_ (Pure.ren _).symm; exact i5 r0 rs (an + 1, sm)))))
   |refine ⟨1, ?_⟩
    repeat first | refine go1 ?_ | refine Br.yes (eO _ _) ?_ | refine Br.yes rfl ?_
    refine kT [0, 1, 2, 3, 4, 5, 6, 7, 8, 9, 10, 11, 2, 3, 19, 16, 17]
set_option maxHeartbeats 4000000 in
theorem aBL (hc : a.n.toNat ≤ 65535 ∧ a.bs.length = 512 * p ∧ 512 * (8 + a.n.toNat * p) ≤ y.N ∧ 512 * (8 + a.n.toNat * p) + 512 * p ≤ 32768 ∧ y.N < 512 * (8 + a.n.toNat * p) + 512 * p) :
  ∃ y' : WSt, y'.ok (i + 1) ∧ AC Tryz.prog 7 [.ptr 0 [], cT 11 a] 12 (woM p k1 k2 tag y a.bs) (woO p k1 k2 tag y y') := by
 obtain ⟨S, S2, N, N2, cap, cap2, ls, rl, st, rf⟩ := y
 have hTa := ha.ty 11
 have hcls := hy.cls
 have hok := hy
 obtain ⟨hs, hs2, hn, hn2, hl5, hll, hrll, hst, hrfn, hrf, _⟩ := hy
 dsimp only at hcls hs hs2 hn hn2 hl5 hll hrll hst hrfn hrf
 have hT := aM (c := 8) (p := p) h1 h2 ht
 have hr32 := ha.r
 have hbs := ha.b
 have hxk := ha.x
 have hnd := ha.nd
 obtain ⟨kd, an, bs, x, nd, wh, ar, r⟩ := a
 dsimp only at hk hr32 hbs hxk hnd
 obtain ⟨k, hbk⟩ : ∃ k, bs.length = k := ⟨_, rfl⟩
 dsimp only [cT] at hTa
 rw [hbk] at hTa hbs hxk
 dsimp only at hc
 rw [hbk] at hc
 obtain ⟨q, hqn⟩ : ∃ q, q = 8 + an.toNat * p := ⟨_, rfl⟩
 rw [← hqn] at hc
 obtain ⟨hAn, hbl, hq, hf, hcl⟩ := hc
 obtain ⟨cx, rfl⟩ : ∃ cx, x = some cx := by
  cases x with
  |none => have := hxk rfl; omega
  |some cx => exact ⟨cx, rfl⟩
 subst hbl
 have hp := uO 8 p hp1 hp2 tag k1 k2 32768 N cap N2 cap2 ls st S an q bs 0 (some cx) (by omega) (by omega) h1 h2 hqn (by decide) (by decide) ht hl5 hs hAn hcl hq hf hn (by decide) (by omega) (by omega)
 have hd := jW 8 32768 p k1 k2 tag an q hqn h1 h2 ht (by decide) (by decide) hp1 hp2 hAn S S2 bs hbk rl st cx (by omega) (by decide) (by omega) (by omega) hf (by omega)
 have hQl : (eD k1 k2 bs 0 q p).length = 512 * p := cL k2 (by omega)
 generalize (eD k1 k2 bs 0 q p) = Q at hp hd hQl
 have hy := aR tag (an + 1) Q
 generalize bY tag (an + 1) Q = sm at hp hd hy
 have hTl := aU (S := S) (B := Q) (p := 512 * q)
 generalize aV S Q (512 * q) = T at hp hd hTl
 have hTl2 : T.length = 512 * q + 512 * p := by rw [hTl, hs, hQl]; omega
 have h5 := kA T q p hp1 hp2 (by omega)
 obtain ⟨la, ll, el, ell⟩ := cS ls (loP T q p) (d9 T q p hp1 hp2) hp1
 obtain ⟨ra, rll, er, erl⟩ := cS rl (rlP T q p) (d8 T q p hp1 hp2) hp1
 rw [el, ell] at hp
 rw [er, erl] at hd
 refine ⟨⟨T, S2, 512 * q + 512 * p, N2, none, cap2, la :: ll, ra :: rll, st + 1, rf ++ [(an + 1, sm)]⟩, hok.put (rlo' := []) _ hp1 hp2 hTl2 (by omega) el ell h5 erl hy, ?_⟩
 have fM : Is (fun z : BitVec 32 × B8 => ((13, some ⟨gU, aB z.1 z.2, true⟩) :: (12, some ⟨eA, D.node [.u8 kd, .u32 an, slD 11 (512 * p) (some cx), nd.D, .u8 wh, aB ar r], true⟩) :: woM p k1 k2 tag ⟨S, S2, N, N2, cap, cap2, ls, rl, st, rf⟩ bs : Mem)) := is _
 rcases hcls with ⟨rfl, rfl, rfl⟩ | ⟨rfl, rfl, r0, rs, rfl⟩ | ⟨l0, ls, q0, rl, r0, rs, rfl, rfl, rfl⟩
 all_goals
  dsimp only [woM, woO, woW, dvW, cT, rfL, aT, oT, cX, dU, oL, eG, rfM, rfN, loN, rlN, List.nil_append, List.cons_append, List.map_nil, List.map_cons]
  rw [hbk]
  try rw [show (rs ++ [(an + 1, sm)]).length = rs.length + 1 from List.length_append]
  clear hok hs hs2 hn hn2 hl5 hll hrll hst ha hxk hbs hp1 hp2 ht hnd hQl hTl hTl2 hqn hq hcl h5 el er hAn hf ell erl
  simp only [List.length_cons, List.length_nil] at hrfn
  refine acA tab mix Tryz.func7 ⟨[5], []⟩ ?_
  refine EffG.mk (And.intro hTa ?_)
  refine go ?_
  refine fR fM (is wh) (is (ar, r)) hr32 hrf (fun za zr hz => ?_)
  iterate 5 (refine brN ?_ (h := decide_eq_false (fun e => absurd (hk.symm.trans e) (by decide))); refine go ?_)
  refine brY ?_ (h := decide_eq_true hk)
  refine go ?_
  refine qD hp [1, 2, 3, 4, 5, 6, 7, 8, 11] ?_
  refine aBV hd [11, 9] ?_
  first
   |have hty := fE (r0 := r0) (rs := rs) (x := (an + 1, sm)) hrf hy
    refine ⟨0, ?_⟩
    refine EffG.mk (And.intro ?_ ?_)
    ·(repeat' (first | exact hty | exact trivial | refine And.intro ?_ ?_)) <;> (first | omega | (simp only [aH, okP, xT, D.ren, D.isCell, Option.getD, List.length_set, List.length_take, List.length_drop, List.length_append, List.length_replicate, List.length_map, List.length_cons, List.length_nil, Option.map, j7, List.nil_append, D.pre, Out.pre] <;> omega) | exact hty | with_reducible rfl | decide)
    repeat first | refine go1 ?_ | refine Br.yes (eO _ _) ?_ | refine Br.yes rfl ?_
    refine kT [0, 1, 2, 3, 4, 5, 6, 7, 8, 9, 10, 11, 16, 3, 20, 17, 18] (h3 := (by (repeat' (first | exact trivial | refine And.intro ⟨_, rfl, rfl, ?_, id⟩ ?_ | refine And.intro ⟨_, rfl, rfl, ?_, fun _ => rfl⟩ ?_)) <;> (first | rfl | exact (Pure.ren _).symm | exact (Pure.ren _).trans (Pure.ren _).symm | (simp only [D.ren, D.rens, aL, aC]; rfl) | (refine Eq.trans ?_ (Pure.ren _).symm; exact i5 r0 rs (an + 1, sm)))))
   |refine ⟨1, ?_⟩
    repeat first | refine go1 ?_ | refine Br.yes (eO _ _) ?_ | refine Br.yes rfl ?_
    refine kT [0, 1, 2, 3, 4, 5, 6, 7, 8, 9, 10, 11, 16, 3, 20, 17, 18]
end
section
variable (p : Nat) (hp1 : 1 ≤ p) (hp2 : p ≤ 2) (k1 k2 : List B8) (tag : B8) (h1 : Rows 15 16 k1) (h2 : Rows 15 16 k2) (ht : tag.length = 32) (y : WSt) (i : Nat) (hi : i ≤ 20) (hy : y.ok i) (a : ActW) (ha : a.ok) (hk : a.kd % 8 = 1)
include p hp1 hp2 k1 k2 tag h1 h2 ht y i hi hy a ha hk
set_option maxHeartbeats 4000000 in
theorem u7 (hc : 65535 < a.n.toNat ∨ y.N < 512 * (8 + a.n.toNat * p) ∨ 32768 < 512 * (8 + a.n.toNat * p) + 512 * p) :
  ∃ y' : WSt, y'.ok (i + 1) ∧ AC Tryz.prog 7 [.ptr 0 [], cT 11 a] 12 (woM p k1 k2 tag y a.bs) (woO p k1 k2 tag y y') := by
 obtain ⟨S, S2, N, N2, cap, cap2, ls, rl, st, rf⟩ := y
 have hTa := ha.ty 11
 have hcls := hy.cls
 have hok := hy
 obtain ⟨hs, hs2, hn, hn2, hl5, hll, hrll, hst, hrfn, hrf, _⟩ := hy
 dsimp only at hcls hs hs2 hn hn2 hl5 hll hrll hst hrfn hrf
 have hT := aM (c := 8) (p := p) h1 h2 ht
 have hr32 := ha.r
 have hbs := ha.b
 have hxk := ha.x
 have hnd := ha.nd
 obtain ⟨kd, an, bs, x, nd, wh, ar, r⟩ := a
 dsimp only at hk hr32 hbs hxk hnd
 obtain ⟨k, hbk⟩ : ∃ k, bs.length = k := ⟨_, rfl⟩
 dsimp only [cT] at hTa
 rw [hbk] at hTa hbs hxk
 dsimp only at hc
 obtain ⟨e, he, hei, hp, hd⟩ := aKH p hp1 hp2 k1 k2 tag h1 h2 ht S S2 N N2 cap cap2 ls rl st hs hn hl5 (by omega) (by omega) an nd.a0 nd.a1 nd.a2 nd.a3 nd.a4 nd.a5 nd.a6 nd.a7 nd.s0 nd.s1 nd.s2 nd.s3 nd.s4 nd.s5 nd.s6 nd.s7 hnd.g0 hnd.g1 hnd.g2 hnd.g3 hnd.g4 hnd.g5 hnd.g6 hnd.g7 hc
 have hef : decide (e = 0) = false := decide_eq_false he
 refine ⟨⟨S, S2, N, N2, cap, cap2, ls, rl, st, rf⟩, hok.mono, ?_⟩
 have fM : Is (fun z : BitVec 32 × B8 => ((13, some ⟨gU, aB z.1 z.2, true⟩) :: (12, some ⟨eA, D.node [.u8 kd, .u32 an, slD 11 k x, nd.D, .u8 wh, aB ar r], true⟩) :: woM p k1 k2 tag ⟨S, S2, N, N2, cap, cap2, ls, rl, st, rf⟩ bs : Mem)) := is _
 rcases hcls with ⟨rfl, rfl, rfl⟩ | ⟨rfl, rfl, r0, rs, rfl⟩ | ⟨l0, ls, q0, rl, r0, rs, rfl, rfl, rfl⟩
 all_goals
  dsimp only [woM, woO, woW, dvW, cT, rfL, aT, oT, cX, dU, oL, eG, rfM, rfN, loN, rlN, List.nil_append, List.cons_append, List.map_nil, List.map_cons]
  rw [hbk]
  clear hok hs hs2 hn hn2 hl5 hll hrll hst ha hxk hbs hp1 hp2 ht hnd hc
  simp only [List.length_cons, List.length_nil] at hrfn
  refine acA tab mix Tryz.func7 ⟨[5], []⟩ ?_
  refine EffG.mk (And.intro hTa ?_)
  refine go ?_
  refine fR fM (is wh) (is (ar, r)) hr32 hrf (fun za zr hz => ?_)
  iterate 5 (refine brN ?_ (h := decide_eq_false (fun e => absurd (hk.symm.trans e) (by decide))); refine go ?_)
  refine brN ?_ (h := decide_eq_false (fun e => absurd (hk.symm.trans e) (by decide)))
  refine go ?_
  refine brY ?_ (h := decide_eq_true hk)
  refine go ?_
  refine qD hp [1, 2, 3, 4, 5, 6, 7, 8] ?_
  refine yO hd [11, 9] ?_
  repeat first | refine go1 ?_ | refine Br.no hef ?_ | refine Br.yes (eO _ _) ?_ | refine Br.yes rfl ?_
  refine kT [0, 1, 2, 3, 4, 5, 6, 7, 8, 9, 10, 11, 2, 3, 10, 4, 9]
set_option maxHeartbeats 4000000 in
theorem aBG (hc : a.n.toNat ≤ 65535 ∧ 512 * (8 + a.n.toNat * p) ≤ y.N ∧ 512 * (8 + a.n.toNat * p) + 512 * p ≤ 32768 ∧ 512 * (8 + a.n.toNat * p) + 512 * p ≤ y.N) :
  ∃ y' : WSt, y'.ok (i + 1) ∧ AC Tryz.prog 7 [.ptr 0 [], cT 11 a] 12 (woM p k1 k2 tag y a.bs) (woO p k1 k2 tag y y') := by
 obtain ⟨S, S2, N, N2, cap, cap2, ls, rl, st, rf⟩ := y
 have hTa := ha.ty 11
 have hcls := hy.cls
 have hok := hy
 obtain ⟨hs, hs2, hn, hn2, hl5, hll, hrll, hst, hrfn, hrf, _⟩ := hy
 dsimp only at hcls hs hs2 hn hn2 hl5 hll hrll hst hrfn hrf
 have hT := aM (c := 8) (p := p) h1 h2 ht
 have hr32 := ha.r
 have hbs := ha.b
 have hxk := ha.x
 have hnd := ha.nd
 obtain ⟨kd, an, bs, x, nd, wh, ar, r⟩ := a
 dsimp only at hk hr32 hbs hxk hnd
 obtain ⟨k, hbk⟩ : ∃ k, bs.length = k := ⟨_, rfl⟩
 dsimp only [cT] at hTa
 rw [hbk] at hTa hbs hxk
 dsimp only at hc
 obtain ⟨q, hqn⟩ : ∃ q, q = 8 + an.toNat * p := ⟨_, rfl⟩
 rw [← hqn] at hc
 obtain ⟨hAn, hq, hf, hcl⟩ := hc
 have hp := uL 8 p hp1 hp2 tag k1 k2 32768 N cap N2 cap2 ls st S an q nd.a0 nd.a1 nd.a2 nd.a3 nd.a4 nd.a5 nd.a6 nd.a7 nd.s0 nd.s1 nd.s2 nd.s3 nd.s4 nd.s5 nd.s6 nd.s7 hnd.g0 hnd.g1 hnd.g2 hnd.g3 hnd.g4 hnd.g5 hnd.g6 hnd.g7 hqn (by decide) (by decide) ht hl5 hs hAn hcl hn (by decide) (by omega) (by omega)
 have hd := jV 8 32768 p k1 k2 tag an q hqn h1 h2 ht (by decide) (by decide) hp1 hp2 hAn nd.a0 nd.a1 nd.a2 nd.a3 nd.a4 nd.a5 nd.a6 nd.a7 nd.s0 nd.s1 nd.s2 nd.s3 nd.s4 nd.s5 nd.s6 nd.s7 hnd.g0 hnd.g1 hnd.g2 hnd.g3 hnd.g4 hnd.g5 hnd.g6 hnd.g7 S S2 rl st (by omega) (by decide) (by omega) (by omega) hf (by omega)
 have hQl : (cG p (bA nd.a0 nd.a1 nd.a2 nd.a3 nd.a4 nd.a5 nd.a6 nd.a7 nd.s0 nd.s1 nd.s2 nd.s3 nd.s4 nd.s5 nd.s6 nd.s7)).length = 512 * p := bM (by rw [dF hnd.g0 hnd.g1 hnd.g2 hnd.g3 hnd.g4 hnd.g5 hnd.g6 hnd.g7]; omega)
 generalize (cG p (bA nd.a0 nd.a1 nd.a2 nd.a3 nd.a4 nd.a5 nd.a6 nd.a7 nd.s0 nd.s1 nd.s2 nd.s3 nd.s4 nd.s5 nd.s6 nd.s7)) = Q at hp hd hQl
 have hy := bE Q
 generalize dL Q = sm at hp hd hy
 have hTl := aU (S := S) (B := Q) (p := 512 * q)
 generalize aV S Q (512 * q) = T at hp hd hTl
 have hTl2 : T.length = N := by rw [hTl, hs, hQl]; omega
 have h5 := kA T q p hp1 hp2 (by omega)
 obtain ⟨la, ll, el, ell⟩ := cS ls (loP T q p) (d9 T q p hp1 hp2) hp1
 obtain ⟨ra, rll, er, erl⟩ := cS rl (rlP T q p) (d8 T q p hp1 hp2) hp1
 rw [el, ell] at hp
 rw [er, erl] at hd
 refine ⟨⟨T, S2, N, N2, cap, cap2, la :: ll, ra :: rll, st + 1, rf ++ [(an + 1, sm)]⟩, hok.put (rlo' := []) _ hp1 hp2 hTl2 (by omega) el ell h5 erl hy, ?_⟩
 have fM : Is (fun z : BitVec 32 × B8 => ((13, some ⟨gU, aB z.1 z.2, true⟩) :: (12, some ⟨eA, D.node [.u8 kd, .u32 an, slD 11 k x, nd.D, .u8 wh, aB ar r], true⟩) :: woM p k1 k2 tag ⟨S, S2, N, N2, cap, cap2, ls, rl, st, rf⟩ bs : Mem)) := is _
 rcases hcls with ⟨rfl, rfl, rfl⟩ | ⟨rfl, rfl, r0, rs, rfl⟩ | ⟨l0, ls, q0, rl, r0, rs, rfl, rfl, rfl⟩
 all_goals
  dsimp only [woM, woO, woW, dvW, cT, rfL, aT, oT, cX, dU, oL, eG, rfM, rfN, loN, rlN, List.nil_append, List.cons_append, List.map_nil, List.map_cons]
  rw [hbk]
  try rw [show (rs ++ [(an + 1, sm)]).length = rs.length + 1 from List.length_append]
  clear hok hs hs2 hn hn2 hl5 hll hrll hst ha hxk hbs hp1 hp2 ht hnd hQl hTl hTl2 hqn hq hcl h5 el er hAn hf ell erl
  simp only [List.length_cons, List.length_nil] at hrfn
  refine acA tab mix Tryz.func7 ⟨[5], []⟩ ?_
  refine EffG.mk (And.intro hTa ?_)
  refine go ?_
  refine fR fM (is wh) (is (ar, r)) hr32 hrf (fun za zr hz => ?_)
  iterate 5 (refine brN ?_ (h := decide_eq_false (fun e => absurd (hk.symm.trans e) (by decide))); refine go ?_)
  refine brN ?_ (h := decide_eq_false (fun e => absurd (hk.symm.trans e) (by decide)))
  refine go ?_
  refine brY ?_ (h := decide_eq_true hk)
  refine go ?_
  refine qD hp [1, 2, 3, 4, 5, 6, 7, 8] ?_
  refine aBV hd [11, 9] ?_
  first
   |have hty := fE (r0 := r0) (rs := rs) (x := (an + 1, sm)) hrf hy
    refine ⟨0, ?_⟩
    refine EffG.mk (And.intro ?_ ?_)
    ·(repeat' (first | exact hty | exact trivial | refine And.intro ?_ ?_)) <;> (first | omega | (simp only [aH, okP, xT, D.ren, D.isCell, Option.getD, List.length_set, List.length_take, List.length_drop, List.length_append, List.length_replicate, List.length_map, List.length_cons, List.length_nil, Option.map, j7, List.nil_append, D.pre, Out.pre] <;> omega) | exact hty | with_reducible rfl | decide)
    repeat first | refine go1 ?_ | refine Br.yes (eO _ _) ?_ | refine Br.yes rfl ?_
    refine kT [0, 1, 2, 3, 4, 5, 6, 7, 8, 9, 10, 11, 2, 3, 19, 16, 17] (h3 := (by (repeat' (first | exact trivial | refine And.intro ⟨_, rfl, rfl, ?_, id⟩ ?_ | refine And.intro ⟨_, rfl, rfl, ?_, fun _ => rfl⟩ ?_)) <;> (first | rfl | exact (Pure.ren _).symm | exact (Pure.ren _).trans (Pure.ren _).symm | (simp only [D.ren, D.rens, aL, aC]; rfl) | (refine Eq.trans ?_ (Pure.ren _).symm; exact i5 r0 rs (an + 1, sm)))))
   |refine ⟨1, ?_⟩
    repeat first | refine go1 ?_ | refine Br.yes (eO _ _) ?_ | refine Br.yes rfl ?_
    refine kT [0, 1, 2, 3, 4, 5, 6, 7, 8, 9, 10, 11, 2, 3, 19, 16, 17]
set_option maxHeartbeats 4000000 in
theorem aBF (hc : a.n.toNat ≤ 65535 ∧ 512 * (8 + a.n.toNat * p) ≤ y.N ∧ 512 * (8 + a.n.toNat * p) + 512 * p ≤ 32768 ∧ y.N < 512 * (8 + a.n.toNat * p) + 512 * p) :
  ∃ y' : WSt, y'.ok (i + 1) ∧ AC Tryz.prog 7 [.ptr 0 [], cT 11 a] 12 (woM p k1 k2 tag y a.bs) (woO p k1 k2 tag y y') := by
 obtain ⟨S, S2, N, N2, cap, cap2, ls, rl, st, rf⟩ := y
 have hTa := ha.ty 11
 have hcls := hy.cls
 have hok := hy
 obtain ⟨hs, hs2, hn, hn2, hl5, hll, hrll, hst, hrfn, hrf, _⟩ := hy
 dsimp only at hcls hs hs2 hn hn2 hl5 hll hrll hst hrfn hrf
 have hT := aM (c := 8) (p := p) h1 h2 ht
 have hr32 := ha.r
 have hbs := ha.b
 have hxk := ha.x
 have hnd := ha.nd
 obtain ⟨kd, an, bs, x, nd, wh, ar, r⟩ := a
 dsimp only at hk hr32 hbs hxk hnd
 obtain ⟨k, hbk⟩ : ∃ k, bs.length = k := ⟨_, rfl⟩
 dsimp only [cT] at hTa
 rw [hbk] at hTa hbs hxk
 dsimp only at hc
 obtain ⟨q, hqn⟩ : ∃ q, q = 8 + an.toNat * p := ⟨_, rfl⟩
 rw [← hqn] at hc
 obtain ⟨hAn, hq, hf, hcl⟩ := hc
 have hp := uK 8 p hp1 hp2 tag k1 k2 32768 N cap N2 cap2 ls st S an q nd.a0 nd.a1 nd.a2 nd.a3 nd.a4 nd.a5 nd.a6 nd.a7 nd.s0 nd.s1 nd.s2 nd.s3 nd.s4 nd.s5 nd.s6 nd.s7 hnd.g0 hnd.g1 hnd.g2 hnd.g3 hnd.g4 hnd.g5 hnd.g6 hnd.g7 hqn (by decide) (by decide) ht hl5 hs hAn hcl hq hf hn (by decide) (by omega) (by omega)
 have hd := jV 8 32768 p k1 k2 tag an q hqn h1 h2 ht (by decide) (by decide) hp1 hp2 hAn nd.a0 nd.a1 nd.a2 nd.a3 nd.a4 nd.a5 nd.a6 nd.a7 nd.s0 nd.s1 nd.s2 nd.s3 nd.s4 nd.s5 nd.s6 nd.s7 hnd.g0 hnd.g1 hnd.g2 hnd.g3 hnd.g4 hnd.g5 hnd.g6 hnd.g7 S S2 rl st (by omega) (by decide) (by omega) (by omega) hf (by omega)
 have hQl : (cG p (bA nd.a0 nd.a1 nd.a2 nd.a3 nd.a4 nd.a5 nd.a6 nd.a7 nd.s0 nd.s1 nd.s2 nd.s3 nd.s4 nd.s5 nd.s6 nd.s7)).length = 512 * p := bM (by rw [dF hnd.g0 hnd.g1 hnd.g2 hnd.g3 hnd.g4 hnd.g5 hnd.g6 hnd.g7]; omega)
 generalize (cG p (bA nd.a0 nd.a1 nd.a2 nd.a3 nd.a4 nd.a5 nd.a6 nd.a7 nd.s0 nd.s1 nd.s2 nd.s3 nd.s4 nd.s5 nd.s6 nd.s7)) = Q at hp hd hQl
 have hy := bE Q
 generalize dL Q = sm at hp hd hy
 have hTl := aU (S := S) (B := Q) (p := 512 * q)
 generalize aV S Q (512 * q) = T at hp hd hTl
 have hTl2 : T.length = 512 * q + 512 * p := by rw [hTl, hs, hQl]; omega
 have h5 := kA T q p hp1 hp2 (by omega)
 obtain ⟨la, ll, el, ell⟩ := cS ls (loP T q p) (d9 T q p hp1 hp2) hp1
 obtain ⟨ra, rll, er, erl⟩ := cS rl (rlP T q p) (d8 T q p hp1 hp2) hp1
 rw [el, ell] at hp
 rw [er, erl] at hd
 refine ⟨⟨T, S2, 512 * q + 512 * p, N2, none, cap2, la :: ll, ra :: rll, st + 1, rf ++ [(an + 1, sm)]⟩, hok.put (rlo' := []) _ hp1 hp2 hTl2 (by omega) el ell h5 erl hy, ?_⟩
 have fM : Is (fun z : BitVec 32 × B8 => ((13, some ⟨gU, aB z.1 z.2, true⟩) :: (12, some ⟨eA, D.node [.u8 kd, .u32 an, slD 11 k x, nd.D, .u8 wh, aB ar r], true⟩) :: woM p k1 k2 tag ⟨S, S2, N, N2, cap, cap2, ls, rl, st, rf⟩ bs : Mem)) := is _
 rcases hcls with ⟨rfl, rfl, rfl⟩ | ⟨rfl, rfl, r0, rs, rfl⟩ | ⟨l0, ls, q0, rl, r0, rs, rfl, rfl, rfl⟩
 all_goals
  dsimp only [woM, woO, woW, dvW, cT, rfL, aT, oT, cX, dU, oL, eG, rfM, rfN, loN, rlN, List.nil_append, List.cons_append, List.map_nil, List.map_cons]
  rw [hbk]
  try rw [show (rs ++ [(an + 1, sm)]).length = rs.length + 1 from List.length_append]
  clear hok hs hs2 hn hn2 hl5 hll hrll hst ha hxk hbs hp1 hp2 ht hnd hQl hTl hTl2 hqn hq hcl h5 el er hAn hf ell erl
  simp only [List.length_cons, List.length_nil] at hrfn
  refine acA tab mix Tryz.func7 ⟨[5], []⟩ ?_
  refine EffG.mk (And.intro hTa ?_)
  refine go ?_
  refine fR fM (is wh) (is (ar, r)) hr32 hrf (fun za zr hz => ?_)
  iterate 5 (refine brN ?_ (h := decide_eq_false (fun e => absurd (hk.symm.trans e) (by decide))); refine go ?_)
  refine brN ?_ (h := decide_eq_false (fun e => absurd (hk.symm.trans e) (by decide)))
  refine go ?_
  refine brY ?_ (h := decide_eq_true hk)
  refine go ?_
  refine qD hp [1, 2, 3, 4, 5, 6, 7, 8] ?_
  refine aBV hd [11, 9] ?_
  first
   |have hty := fE (r0 := r0) (rs := rs) (x := (an + 1, sm)) hrf hy
    refine ⟨0, ?_⟩
    refine EffG.mk (And.intro ?_ ?_)
    ·(repeat' (first | exact hty | exact trivial | refine And.intro ?_ ?_)) <;> (first | omega | (simp only [aH, okP, xT, D.ren, D.isCell, Option.getD, List.length_set, List.length_take, List.length_drop, List.length_append, List.length_replicate, List.length_map, List.length_cons, List.length_nil, Option.map, j7, List.nil_append, D.pre, Out.pre] <;> omega) | exact hty | with_reducible rfl | decide)
    repeat first | refine go1 ?_ | refine Br.yes (eO _ _) ?_ | refine Br.yes rfl ?_
    refine kT [0, 1, 2, 3, 4, 5, 6, 7, 8, 9, 10, 11, 16, 3, 20, 17, 18] (h3 := (by (repeat' (first | exact trivial | refine And.intro ⟨_, rfl, rfl, ?_, id⟩ ?_ | refine And.intro ⟨_, rfl, rfl, ?_, fun _ => rfl⟩ ?_)) <;> (first | rfl | exact (Pure.ren _).symm | exact (Pure.ren _).trans (Pure.ren _).symm | (simp only [D.ren, D.rens, aL, aC]; rfl) | (refine Eq.trans ?_ (Pure.ren _).symm; exact i5 r0 rs (an + 1, sm)))))
   |refine ⟨1, ?_⟩
    repeat first | refine go1 ?_ | refine Br.yes (eO _ _) ?_ | refine Br.yes rfl ?_
    refine kT [0, 1, 2, 3, 4, 5, 6, 7, 8, 9, 10, 11, 16, 3, 20, 17, 18]
end
section
variable (p : Nat) (hp1 : 1 ≤ p) (hp2 : p ≤ 2) (k1 k2 : List B8) (tag : B8) (h1 : Rows 15 16 k1) (h2 : Rows 15 16 k2) (ht : tag.length = 32) (y : WSt) (i : Nat) (hi : i ≤ 20) (hy : y.ok i) (a : ActW) (ha : a.ok) (hk : a.kd % 8 = 2) (hx : ∃ c, a.x = some c)
include p hp1 hp2 k1 k2 tag h1 h2 ht y i hi hy a ha hk hx
set_option maxHeartbeats 4000000 in
theorem u6 (hc : 65535 < a.n.toNat ∨ 512 * p < a.bs.length ∨ y.N < 512 * (8 + a.n.toNat * p) ∨ 32768 < 512 * (8 + a.n.toNat * p) + 512 * p) :
  ∃ y' : WSt, y'.ok (i + 1) ∧ AC Tryz.prog 7 [.ptr 0 [], cT 11 a] 12 (woM p k1 k2 tag y a.bs) (woO p k1 k2 tag y y') := by
 obtain ⟨S, S2, N, N2, cap, cap2, ls, rl, st, rf⟩ := y
 have hTa := ha.ty 11
 have hcls := hy.cls
 have hok := hy
 obtain ⟨hs, hs2, hn, hn2, hl5, hll, hrll, hst, hrfn, hrf, _⟩ := hy
 dsimp only at hcls hs hs2 hn hn2 hl5 hll hrll hst hrfn hrf
 have hT := aM (c := 8) (p := p) h1 h2 ht
 have hr32 := ha.r
 have hbs := ha.b
 have hxk := ha.x
 have hnd := ha.nd
 obtain ⟨kd, an, bs, x, nd, wh, ar, r⟩ := a
 dsimp only at hk hr32 hbs hxk hnd
 obtain ⟨k, hbk⟩ : ∃ k, bs.length = k := ⟨_, rfl⟩
 dsimp only [cT] at hTa
 rw [hbk] at hTa hbs hxk
 dsimp only at hc
 obtain ⟨cx, hx⟩ := hx
 have hx : x = some cx := hx
 subst hx
 obtain ⟨e, he, hei, hp, hd⟩ := aKG p hp1 hp2 k1 k2 tag h1 h2 ht S S2 N N2 cap cap2 ls rl st hs hn hl5 (by omega) (by omega) an bs cx (by omega) hc
 rw [hbk] at hp hd
 have hef : decide (e = 0) = false := decide_eq_false he
 refine ⟨⟨S, S2, N, N2, cap, cap2, ls, rl, st, rf⟩, hok.mono, ?_⟩
 have fM : Is (fun z : BitVec 32 × B8 => ((13, some ⟨gU, aB z.1 z.2, true⟩) :: (12, some ⟨eA, D.node [.u8 kd, .u32 an, slD 11 k (some cx), nd.D, .u8 wh, aB ar r], true⟩) :: woM p k1 k2 tag ⟨S, S2, N, N2, cap, cap2, ls, rl, st, rf⟩ bs : Mem)) := is _
 rcases hcls with ⟨rfl, rfl, rfl⟩ | ⟨rfl, rfl, r0, rs, rfl⟩ | ⟨l0, ls, q0, rl, r0, rs, rfl, rfl, rfl⟩
 all_goals
  dsimp only [woM, woO, woW, dvW, cT, rfL, aT, oT, cX, dU, oL, eG, rfM, rfN, loN, rlN, List.nil_append, List.cons_append, List.map_nil, List.map_cons]
  rw [hbk]
  clear hok hs hs2 hn hn2 hl5 hll hrll hst ha hxk hbs hp1 hp2 ht hnd hc
  simp only [List.length_cons, List.length_nil] at hrfn
  refine acA tab mix Tryz.func7 ⟨[5], []⟩ ?_
  refine EffG.mk (And.intro hTa ?_)
  refine go ?_
  refine fR fM (is wh) (is (ar, r)) hr32 hrf (fun za zr hz => ?_)
  iterate 5 (refine brN ?_ (h := decide_eq_false (fun e => absurd (hk.symm.trans e) (by decide))); refine go ?_)
  iterate 2 (refine brN ?_ (h := decide_eq_false (fun e => absurd (hk.symm.trans e) (by decide))); refine go ?_)
  refine qD hp [1, 2, 3, 4, 5, 6, 7, 8, 11] ?_
  refine yO hd [11, 9] ?_
  repeat first | refine go1 ?_ | refine Br.no hef ?_ | refine Br.yes (eO _ _) ?_ | refine Br.yes rfl ?_
  refine kT [0, 1, 2, 3, 4, 5, 6, 7, 8, 9, 10, 11, 2, 3, 10, 4, 9]
set_option maxHeartbeats 4000000 in
theorem aBE (hc : a.n.toNat ≤ 65535 ∧ a.bs.length ≤ 512 * p ∧ 512 * (8 + a.n.toNat * p) ≤ y.N ∧ 512 * (8 + a.n.toNat * p) + 512 * p ≤ 32768 ∧ 512 * (8 + a.n.toNat * p) + 512 * p ≤ y.N) :
  ∃ y' : WSt, y'.ok (i + 1) ∧ AC Tryz.prog 7 [.ptr 0 [], cT 11 a] 12 (woM p k1 k2 tag y a.bs) (woO p k1 k2 tag y y') := by
 obtain ⟨S, S2, N, N2, cap, cap2, ls, rl, st, rf⟩ := y
 have hTa := ha.ty 11
 have hcls := hy.cls
 have hok := hy
 obtain ⟨hs, hs2, hn, hn2, hl5, hll, hrll, hst, hrfn, hrf, _⟩ := hy
 dsimp only at hcls hs hs2 hn hn2 hl5 hll hrll hst hrfn hrf
 have hT := aM (c := 8) (p := p) h1 h2 ht
 have hr32 := ha.r
 have hbs := ha.b
 have hxk := ha.x
 have hnd := ha.nd
 obtain ⟨kd, an, bs, x, nd, wh, ar, r⟩ := a
 dsimp only at hk hr32 hbs hxk hnd
 obtain ⟨k, hbk⟩ : ∃ k, bs.length = k := ⟨_, rfl⟩
 dsimp only [cT] at hTa
 rw [hbk] at hTa hbs hxk
 dsimp only at hc
 rw [hbk] at hc
 obtain ⟨q, hqn⟩ : ∃ q, q = 8 + an.toNat * p := ⟨_, rfl⟩
 rw [← hqn] at hc
 obtain ⟨hAn, hbl, hq, hf, hcl⟩ := hc
 obtain ⟨cx, hx⟩ := hx
 have hx : x = some cx := hx
 subst hx
 have hp := uH 8 p hp1 hp2 tag k1 k2 32768 N cap N2 cap2 ls st S an q bs 0 k (some cx) (by omega) (by omega) hqn (by decide) (by decide) ht hl5 hs hAn hcl hn (by decide) (by omega) (by omega)
 rw [show (bs.drop 0).take k = bs by rw [List.drop_zero, List.take_of_length_le (by omega)]] at hp
 have hd := jU 8 32768 p k1 k2 tag an q hqn h1 h2 ht (by decide) (by decide) hp1 hp2 hAn S S2 bs k hbk (by omega) rl st (some cx) (by omega) (by decide) (by omega) (by omega) hf (by omega)
 have hQl : (cG p bs).length = 512 * p := bM (by omega)
 generalize (cG p bs) = Q at hp hd hQl
 have hy := aP Q
 generalize b7 Q = sm at hp hd hy
 have hTl := aU (S := S) (B := Q) (p := 512 * q)
 generalize aV S Q (512 * q) = T at hp hd hTl
 have hTl2 : T.length = N := by rw [hTl, hs, hQl]; omega
 have h5 := kA T q p hp1 hp2 (by omega)
 obtain ⟨la, ll, el, ell⟩ := cS ls (loP T q p) (d9 T q p hp1 hp2) hp1
 obtain ⟨ra, rll, er, erl⟩ := cS rl (rlP T q p) (d8 T q p hp1 hp2) hp1
 rw [el, ell] at hp
 rw [er, erl] at hd
 refine ⟨⟨T, S2, N, N2, cap, cap2, la :: ll, ra :: rll, st + 1, rf ++ [(an + 1, sm)]⟩, hok.put (rlo' := []) _ hp1 hp2 hTl2 (by omega) el ell h5 erl hy, ?_⟩
 have fM : Is (fun z : BitVec 32 × B8 => ((13, some ⟨gU, aB z.1 z.2, true⟩) :: (12, some ⟨eA, D.node [.u8 kd, .u32 an, slD 11 k (some cx), nd.D, .u8 wh, aB ar r], true⟩) :: woM p k1 k2 tag ⟨S, S2, N, N2, cap, cap2, ls, rl, st, rf⟩ bs : Mem)) := is _
 rcases hcls with ⟨rfl, rfl, rfl⟩ | ⟨rfl, rfl, r0, rs, rfl⟩ | ⟨l0, ls, q0, rl, r0, rs, rfl, rfl, rfl⟩
 all_goals
  dsimp only [woM, woO, woW, dvW, cT, rfL, aT, oT, cX, dU, oL, eG, rfM, rfN, loN, rlN, List.nil_append, List.cons_append, List.map_nil, List.map_cons]
  rw [hbk]
  try rw [show (rs ++ [(an + 1, sm)]).length = rs.length + 1 from List.length_append]
  clear hok hs hs2 hn hn2 hl5 hll hrll hst ha hxk hbs hp1 hp2 ht hnd hQl hTl hTl2 hqn hq hcl h5 el er hAn hf ell erl
  simp only [List.length_cons, List.length_nil] at hrfn
  refine acA tab mix Tryz.func7 ⟨[5], []⟩ ?_
  refine EffG.mk (And.intro hTa ?_)
  refine go ?_
  refine fR fM (is wh) (is (ar, r)) hr32 hrf (fun za zr hz => ?_)
  iterate 5 (refine brN ?_ (h := decide_eq_false (fun e => absurd (hk.symm.trans e) (by decide))); refine go ?_)
  iterate 2 (refine brN ?_ (h := decide_eq_false (fun e => absurd (hk.symm.trans e) (by decide))); refine go ?_)
  refine qD hp [1, 2, 3, 4, 5, 6, 7, 8, 11] ?_
  refine aBV hd [11, 9] ?_
  first
   |have hty := fE (r0 := r0) (rs := rs) (x := (an + 1, sm)) hrf hy
    refine ⟨0, ?_⟩
    refine EffG.mk (And.intro ?_ ?_)
    ·(repeat' (first | exact hty | exact trivial | refine And.intro ?_ ?_)) <;> (first | omega | (simp only [aH, okP, xT, D.ren, D.isCell, Option.getD, List.length_set, List.length_take, List.length_drop, List.length_append, List.length_replicate, List.length_map, List.length_cons, List.length_nil, Option.map, j7, List.nil_append, D.pre, Out.pre] <;> omega) | exact hty | with_reducible rfl | decide)
    repeat first | refine go1 ?_ | refine Br.yes (eO _ _) ?_ | refine Br.yes rfl ?_
    refine kT [0, 1, 2, 3, 4, 5, 6, 7, 8, 9, 10, 11, 2, 3, 19, 16, 17] (h3 := (by (repeat' (first | exact trivial | refine And.intro ⟨_, rfl, rfl, ?_, id⟩ ?_ | refine And.intro ⟨_, rfl, rfl, ?_, fun _ => rfl⟩ ?_)) <;> (first | rfl | exact (Pure.ren _).symm | exact (Pure.ren _).trans (Pure.ren _).symm | (simp only [D.ren, D.rens, aL, aC]; rfl) | (refine Eq.trans ?_ (Pure.ren _).symm; exact i5 r0 rs (an + 1, sm)))))
   |refine ⟨1, ?_⟩
    repeat first | refine go1 ?_ | refine Br.yes (eO _ _) ?_ | refine Br.yes rfl ?_
    refine kT [0, 1, 2, 3, 4, 5, 6, 7, 8, 9, 10, 11, 2, 3, 19, 16, 17]
set_option maxHeartbeats 4000000 in
theorem aBD (hc : a.n.toNat ≤ 65535 ∧ a.bs.length ≤ 512 * p ∧ 512 * (8 + a.n.toNat * p) ≤ y.N ∧ 512 * (8 + a.n.toNat * p) + 512 * p ≤ 32768 ∧ y.N < 512 * (8 + a.n.toNat * p) + 512 * p) :
  ∃ y' : WSt, y'.ok (i + 1) ∧ AC Tryz.prog 7 [.ptr 0 [], cT 11 a] 12 (woM p k1 k2 tag y a.bs) (woO p k1 k2 tag y y') := by
 obtain ⟨S, S2, N, N2, cap, cap2, ls, rl, st, rf⟩ := y
 have hTa := ha.ty 11
 have hcls := hy.cls
 have hok := hy
 obtain ⟨hs, hs2, hn, hn2, hl5, hll, hrll, hst, hrfn, hrf, _⟩ := hy
 dsimp only at hcls hs hs2 hn hn2 hl5 hll hrll hst hrfn hrf
 have hT := aM (c := 8) (p := p) h1 h2 ht
 have hr32 := ha.r
 have hbs := ha.b
 have hxk := ha.x
 have hnd := ha.nd
 obtain ⟨kd, an, bs, x, nd, wh, ar, r⟩ := a
 dsimp only at hk hr32 hbs hxk hnd
 obtain ⟨k, hbk⟩ : ∃ k, bs.length = k := ⟨_, rfl⟩
 dsimp only [cT] at hTa
 rw [hbk] at hTa hbs hxk
 dsimp only at hc
 rw [hbk] at hc
 obtain ⟨q, hqn⟩ : ∃ q, q = 8 + an.toNat * p := ⟨_, rfl⟩
 rw [← hqn] at hc
 obtain ⟨hAn, hbl, hq, hf, hcl⟩ := hc
 obtain ⟨cx, hx⟩ := hx
 have hx : x = some cx := hx
 subst hx
 have hp := uG 8 p hp1 hp2 tag k1 k2 32768 N cap N2 cap2 ls st S an q bs 0 k (some cx) (by omega) (by omega) hqn (by decide) (by decide) ht hl5 hs hAn hcl hq hf hn (by decide) (by omega) (by omega)
 rw [show (bs.drop 0).take k = bs by rw [List.drop_zero, List.take_of_length_le (by omega)]] at hp
 have hd := jU 8 32768 p k1 k2 tag an q hqn h1 h2 ht (by decide) (by decide) hp1 hp2 hAn S S2 bs k hbk (by omega) rl st (some cx) (by omega) (by decide) (by omega) (by omega) hf (by omega)
 have hQl : (cG p bs).length = 512 * p := bM (by omega)
 generalize (cG p bs) = Q at hp hd hQl
 have hy := aP Q
 generalize b7 Q = sm at hp hd hy
 have hTl := aU (S := S) (B := Q) (p := 512 * q)
 generalize aV S Q (512 * q) = T at hp hd hTl
 have hTl2 : T.length = 512 * q + 512 * p := by rw [hTl, hs, hQl]; omega
 have h5 := kA T q p hp1 hp2 (by omega)
 obtain ⟨la, ll, el, ell⟩ := cS ls (loP T q p) (d9 T q p hp1 hp2) hp1
 obtain ⟨ra, rll, er, erl⟩ := cS rl (rlP T q p) (d8 T q p hp1 hp2) hp1
 rw [el, ell] at hp
 rw [er, erl] at hd
 refine ⟨⟨T, S2, 512 * q + 512 * p, N2, none, cap2, la :: ll, ra :: rll, st + 1, rf ++ [(an + 1, sm)]⟩, hok.put (rlo' := []) _ hp1 hp2 hTl2 (by omega) el ell h5 erl hy, ?_⟩
 have fM : Is (fun z : BitVec 32 × B8 => ((13, some ⟨gU, aB z.1 z.2, true⟩) :: (12, some ⟨eA, D.node [.u8 kd, .u32 an, slD 11 k (some cx), nd.D, .u8 wh, aB ar r], true⟩) :: woM p k1 k2 tag ⟨S, S2, N, N2, cap, cap2, ls, rl, st, rf⟩ bs : Mem)) := is _
 rcases hcls with ⟨rfl, rfl, rfl⟩ | ⟨rfl, rfl, r0, rs, rfl⟩ | ⟨l0, ls, q0, rl, r0, rs, rfl, rfl, rfl⟩
 all_goals
  dsimp only [woM, woO, woW, dvW, cT, rfL, aT, oT, cX, dU, oL, eG, rfM, rfN, loN, rlN, List.nil_append, List.cons_append, List.map_nil, List.map_cons]
  rw [hbk]
  try rw [show (rs ++ [(an + 1, sm)]).length = rs.length + 1 from List.length_append]
  clear hok hs hs2 hn hn2 hl5 hll hrll hst ha hxk hbs hp1 hp2 ht hnd hQl hTl hTl2 hqn hq hcl h5 el er hAn hf ell erl
  simp only [List.length_cons, List.length_nil] at hrfn
  refine acA tab mix Tryz.func7 ⟨[5], []⟩ ?_
  refine EffG.mk (And.intro hTa ?_)
  refine go ?_
  refine fR fM (is wh) (is (ar, r)) hr32 hrf (fun za zr hz => ?_)
  iterate 5 (refine brN ?_ (h := decide_eq_false (fun e => absurd (hk.symm.trans e) (by decide))); refine go ?_)
  iterate 2 (refine brN ?_ (h := decide_eq_false (fun e => absurd (hk.symm.trans e) (by decide))); refine go ?_)
  refine qD hp [1, 2, 3, 4, 5, 6, 7, 8, 11] ?_
  refine aBV hd [11, 9] ?_
  first
   |have hty := fE (r0 := r0) (rs := rs) (x := (an + 1, sm)) hrf hy
    refine ⟨0, ?_⟩
    refine EffG.mk (And.intro ?_ ?_)
    ·(repeat' (first | exact hty | exact trivial | refine And.intro ?_ ?_)) <;> (first | omega | (simp only [aH, okP, xT, D.ren, D.isCell, Option.getD, List.length_set, List.length_take, List.length_drop, List.length_append, List.length_replicate, List.length_map, List.length_cons, List.length_nil, Option.map, j7, List.nil_append, D.pre, Out.pre] <;> omega) | exact hty | with_reducible rfl | decide)
    repeat first | refine go1 ?_ | refine Br.yes (eO _ _) ?_ | refine Br.yes rfl ?_
    refine kT [0, 1, 2, 3, 4, 5, 6, 7, 8, 9, 10, 11, 16, 3, 20, 17, 18] (h3 := (by (repeat' (first | exact trivial | refine And.intro ⟨_, rfl, rfl, ?_, id⟩ ?_ | refine And.intro ⟨_, rfl, rfl, ?_, fun _ => rfl⟩ ?_)) <;> (first | rfl | exact (Pure.ren _).symm | exact (Pure.ren _).trans (Pure.ren _).symm | (simp only [D.ren, D.rens, aL, aC]; rfl) | (refine Eq.trans ?_ (Pure.ren _).symm; exact i5 r0 rs (an + 1, sm)))))
   |refine ⟨1, ?_⟩
    repeat first | refine go1 ?_ | refine Br.yes (eO _ _) ?_ | refine Br.yes rfl ?_
    refine kT [0, 1, 2, 3, 4, 5, 6, 7, 8, 9, 10, 11, 16, 3, 20, 17, 18]
end
end Go.Proofs.YtodkhgofmgaafaaGreatDoor.Av
