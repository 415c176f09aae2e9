import Derived.Test.YtodkhgofmgaafaaGreatDoorM4
namespace Go.Proofs.YtodkhgofmgaafaaGreatDoor.Av
open Go
set_option linter.all false
set_option maxRecDepth 3000
def hbI (bs : B8) (o k : Nat) (x : BitVec 8) : Nat → B8
 |0 => List.replicate 64 0
 |i + 1 => if i < k then ((hbI bs o k x i).set i x).set i (bs.getD (o + i) 0 ^^^ x) else (hbI bs o k x i).set i x
theorem fY (bs : B8) (o k : Nat) (x : BitVec 8) : ∀ i, (hbI bs o k x i).length = 64
 |0 => rfl
 |i + 1 => by
  rw [hbI]
  split
  ·rw [List.length_set, List.length_set, fY bs o k x i]
  ·rw [List.length_set, fY bs o k x i]
theorem aD7 (bs : B8) (o k : Nat) (x : BitVec 8) : ∀ n, n ≤ 64 → ∀ i, i < n → (hbI bs o k x n).getD i 0 = (if i < k then bs.getD (o + i) 0 else 0) ^^^ x
 |0, _, i, hi => absurd hi (Nat.not_lt_zero i)
 |n + 1, hn, i, hi => by
  have hl := fY bs o k x n
  rw [hbI]
  by_cases hk : n < k
  ·rw [if_pos hk, List.set_set, bW (by omega)]
   by_cases h : i = n
   ·subst h; rw [if_pos rfl, if_pos hk]
   ·rw [if_neg h, aD7 bs o k x n (by omega) i (by omega)]
  ·rw [if_neg hk, bW (by omega)]
   by_cases h : i = n
   ·subst h; rw [if_pos rfl, if_neg hk]; exact BitVec.zero_xor.symm
   ·rw [if_neg h, aD7 bs o k x n (by omega) i (by omega)]
theorem aEu (base key : B8) (c : BitVec 8) : ∀ n, n ≤ base.length → ∀ i, i < n → (xsI base key c n).getD i 0 = key.getD i 0 ^^^ c
 |0, _, i, hi => absurd hi (Nat.not_lt_zero i)
 |n + 1, hn, i, hi => by
  rw [xsI, bW (by rw [fU]; omega)]
  by_cases h : i = n
  ·rw [if_pos h, h]
  ·rw [if_neg h, aEu base key c n (by omega) i (by omega)]
section
variable (bs : B8) (o k : Nat) (h : o + k ≤ bs.length)
include bs o k h
theorem aGW (i : Nat) : (aEZ ((bs.drop o).take k)).getD i 0 = if i < k then bs.getD (o + i) 0 else 0 := by
 have hl : ((bs.drop o).take k).length = k := by rw [List.length_take, List.length_drop]; omega
 unfold aEZ
 by_cases hi : i < k
 ·rw [if_pos hi, fN (by omega), kE hi, kF]
 ·rw [if_neg hi]
  simp only [List.getD_eq_getElem?_getD]
  rw [List.getElem?_append_right (by omega), List.getElem?_replicate]
  split <;> rfl
theorem hb_ip (hk : k ≤ 64) : hbI bs o k 0x36 64 = ipF ((bs.drop o).take k) := by
 have hl : ((bs.drop o).take k).length = k := by rw [List.length_take, List.length_drop]; omega
 have hp := mJ (key := (bs.drop o).take k) (by omega)
 have h1 := kZ (key := (bs.drop o).take k) (by omega)
 have h2 := fY bs o k 0x36 64
 refine yG (by rw [h1, h2]) fun i hi => ?_
 rw [aD7 bs o k _ 64 (Nat.le_refl _) i (by omega), ipF, aEu _ _ _ 64 (by omega) i (by omega), aGW bs o k h]
theorem hb_op : hbI bs o k 0x5c 64 = opF ((bs.drop o).take k) := by
 have h1 := kW ((bs.drop o).take k)
 have h2 := fY bs o k 0x5c 64
 refine yG (by rw [h1, h2]) fun i hi => ?_
 rw [aD7 bs o k _ 64 (Nat.le_refl _) i (by omega), opF, aEu _ _ _ 64 (by rw [List.length_replicate]; omega) i (by omega), aGW bs o k h]
end
theorem aAj (bs : B8) (o k : Nat) (cap : Option Nat) (x : BitVec 8) (h : o + k ≤ bs.length) (hk : k ≤ 64) :
  AC Tryz.prog 123 [.slice 0 [] o k cap, .u8 x] 1 [(0, some ⟨.row .cell, .u8s bs, false⟩)] ⟨.slice 1 [] 0 64 none, [], [(.row .cell, .u8s (hbI bs o k x 64))]⟩ := by
 refine acA tab mix Tryz.func123 {} ?_
 refine gob ?_
 refine aX Nat (fun i => [(0, .slice 0 [] o k cap), (1, .u8 x), (6, .slice 1 [] 0 64 none), (7, .i64 i)]) (fun i => [(0, some ⟨.row .cell, .u8s bs, false⟩), (1, some ⟨.row .cell, .u8s (hbI bs o k x i), true⟩)]) 2 (fun i => i ≤ 64) (fun i => 64 - i) 0 [0, 1] (Nat.zero_le _) aK ?_
 intro i hi
 have hl := fY bs o k x i
 refine go ?_
 refine Br.split (fun h => ?_) (fun h => ?_)
 ·have hi : i < 64 := by have := of_decide_eq_true h; omega
  refine go ?_
  refine Br.split (fun h => ?_) (fun h => ?_)
  ·have hik : i < k := by have := of_decide_eq_true h; omega
   have e : hbI bs o k x (i + 1) = ((hbI bs o k x i).set i x).set i (bs.getD (o + i) 0 ^^^ x) := by rw [hbI, if_pos hik]
   refine go ?_
   refine bB (i + 1) [0, 1] (aK (h3 := ?_))
   rw [e]
   exact ⟨⟨_, rfl, rfl, rfl, id⟩, ⟨_, rfl, rfl, by rw [Nat.zero_add]; rfl, id⟩, trivial⟩
  ·have hik : ¬ i < k := by have := of_decide_eq_false h; omega
   have e : hbI bs o k x (i + 1) = (hbI bs o k x i).set i x := by rw [hbI, if_neg hik]
   refine go ?_
   refine bB (i + 1) [0, 1] (aK (h3 := ?_))
   rw [e]
   exact ⟨⟨_, rfl, rfl, rfl, id⟩, ⟨_, rfl, rfl, by rw [Nat.zero_add]; rfl, id⟩, trivial⟩
 ·obtain rfl : i = 64 := by have := of_decide_eq_false h; omega
  refine go ?_
  refine aI [0, 1]
theorem aFg (ks bs : B8) (p k q l : Nat) (c d : Option Nat) (ha : p + k ≤ ks.length) (hb : q + l ≤ bs.length) (hk : k ≤ 64) (hl : l ≤ 30000000000000) :
  AC Tryz.prog 86 [.slice 0 [] p k c, .slice 1 [] q l d] 2 [(0, some ⟨.row .cell, .u8s ks, false⟩), (1, some ⟨.row .cell, .u8s bs, false⟩), gK] ⟨.u8s (hmF ((ks.drop p).take k) ((bs.drop q).take l)), [], []⟩ := by
 have hbl : ((bs.drop q).take l).length = l := by rw [List.length_take, List.length_drop]; omega
 have hkl : ((ks.drop p).take k).length = k := by rw [List.length_take, List.length_drop]; omega
 have hi := aAj ks p k c 0x36 ha hk
 have ho := aAj ks p k c 0x5c ha hk
 rw [hb_ip ks p k ha hk] at hi
 rw [hb_op ks p k ha] at ho
 have e : hmF ((ks.drop p).take k) ((bs.drop q).take l) = dI (opF ((ks.drop p).take k) ++ dI (ipF ((ks.drop p).take k) ++ (bs.drop q).take l)) := rfl
 have hO := kW ((ks.drop p).take k)
 have hN := kZ (key := (ks.drop p).take k) (by omega)
 generalize hmF ((ks.drop p).take k) ((bs.drop q).take l) = y at e ⊢
 generalize opF ((ks.drop p).take k) = O at ho e hO
 generalize ipF ((ks.drop p).take k) = N at hi e hN
 have hs1 := aCv (List.take 64 N ++ (bs.drop q).take l) 0 (64 + l) none (by rw [List.length_append, hbl, List.take_of_length_le (by omega), hN]; omega) (by omega)
 rw [List.drop_zero, List.take_of_length_le (l := List.take 64 N ++ _) (by rw [List.length_append, hbl, List.length_take]; omega)] at hs1
 have hNt : List.take 64 N = N := List.take_of_length_le (by omega)
 have hs1l := bI (List.take 64 N ++ (bs.drop q).take l)
 rw [hNt] at hs1 hs1l
 generalize dI (N ++ (bs.drop q).take l) = z at hs1 hs1l e
 have hs2 := aCv (O ++ z) 0 (64 + 32) none (by rw [List.length_append]; omega) (by decide)
 rw [List.drop_zero, List.take_of_length_le (l := O ++ z) (by rw [List.length_append]; omega), ← e] at hs2
 have hy : y.length = 32 := by rw [e]; exact bI _
 refine acA tab mix Tryz.func86 {} ?_
 refine go ?_
 refine bG hi [0] ?_
 refine ⟨0, ?_⟩
 refine go ?_
 refine bK hs1 [4] ?_ (hm := ?_)
 rotate_left
 ·exact ⟨⟨_, rfl, rfl, congrArg (fun x => D.u8s (x ++ (bs.drop q).take l)) hNt, fun _ => rfl⟩, ⟨_, rfl, rfl, rfl, id⟩, trivial⟩
 refine go ?_
 refine bG ho [0] ?_
 refine ⟨0, ?_⟩
 refine go ?_
 refine bK hs2 [7] ?_ (hm := ?_)
 rotate_left
 ·exact ⟨⟨_, rfl, rfl, congrArg (fun x => D.u8s x) (show List.take 64 O ++ List.take 32 z = O ++ z by rw [List.take_of_length_le (by omega), List.take_of_length_le (by omega)]), fun _ => rfl⟩, ⟨_, rfl, rfl, rfl, id⟩, trivial⟩
 refine go ?_
 refine aI [0, 1]
theorem sI (key l : B8) (hk : key.length = 32) (hl : l.length ≤ 100) : AC Tryz.prog 44 [.u8s key, .str l] 0 [gK] ⟨.u8s (fH key l), [], []⟩ := by
 have hol : (aA5 ++ l).length = 10 + l.length := by rw [List.length_append]; rfl
 have ho := aFg key (aA5 ++ l) 0 32 0 (aA5 ++ l).length (some 32) none (by omega) (by omega) (by decide) (by omega)
 have e : fH key l = hmF key (aA5 ++ l) := rfl
 rw [List.drop_zero, List.drop_zero, List.take_of_length_le (by omega), List.take_of_length_le (Nat.le_refl _), ← e] at ho
 have hy := aW key l
 generalize fH key l = y at ho hy ⊢
 refine acA tab mix Tryz.func44 {} ?_
 refine go ?_
 refine bG (ho.arr 0 32) [0, 2] ?_
 refine aI []


theorem wU (s k : B8) (hs : s.length = 16) (hk : k.length = 16) : AC Tryz.prog 151 [.u8s s, .u8s k] 0 [] ⟨.u8s (eM s k), [], []⟩ := by
 refine cN tab mix Tryz.func151 rfl (by kernel_rfl) (by kernel_rfl) (by kernel_rfl) {} ?_
 refine stN ?_
 refine aX Nat (fun n => [(2, .ptr 0 []), (3, .ptr 1 []), (4, .ptr 2 []), (5, .i64 n)]) (fun n => [(0, some ⟨t16, .u8s (aEq s k n), true⟩), (1, some ⟨t16, .u8s k, true⟩), (2, some ⟨t16, .u8s (List.replicate 16 0), true⟩)]) 3
  (fun n => n ≤ 16) (fun n => 16 - n) 0 [0, 1, 2] (Nat.zero_le _) ?_ ?_
 ·exact aN rfl ⟨rfl, rfl, rfl, rfl, trivial⟩ ⟨⟨_, rfl, rfl, rfl, id⟩, ⟨_, rfl, rfl, rfl, id⟩, ⟨_, rfl, rfl, rfl, id⟩, trivial⟩ rfl
 intro n hn
 have hl := dX s k n
 rw [hs] at hl
 refine stN ?_
 refine Br.split (fun h => ?_) (fun h => ?_)
 ·have hn : n < 16 := by have := of_decide_eq_true h; omega
  refine stN ?_
  refine bQ (n + 1) [0, 1, 2] ?_ ?_ ?_
  ·omega
  ·omega
  ·exact aN rfl ⟨rfl, rfl, rfl, rfl, trivial⟩ ⟨⟨_, rfl, rfl, rfl, id⟩, ⟨_, rfl, rfl, rfl, id⟩, ⟨_, rfl, rfl, rfl, id⟩, trivial⟩ rfl
 ·have hn : n = 16 := by have := of_decide_eq_false h; omega
  subst hn
  refine stN ?_
  refine gC [] rfl rfl trivial rfl
theorem aEB (a : BitVec 8) (h : 128 ≤ a.toNat) : aF a = (a <<< 1) ^^^ 27 := by
 have : 128 ≤ a.toNat → aF a = (a <<< 1) ^^^ 27 := oE (p := fun a => 128 ≤ a.toNat → aF a = (a <<< 1) ^^^ 27) (by decide +kernel) a
 exact this h
theorem aFR (a : BitVec 8) (h : ¬ 128 ≤ a.toNat) : aF a = a <<< 1 := by
 have : ¬ 128 ≤ a.toNat → aF a = a <<< 1 := oE (p := fun a => ¬ 128 ≤ a.toNat → aF a = a <<< 1) (by decide +kernel) a
 exact this h
theorem kO (a : BitVec 8) : AC Tryz.prog 152 [.u8 a] 0 [] ⟨.u8 (aF a), [], []⟩ := by
 refine cN tab mix Tryz.func152 rfl (by kernel_rfl) (by kernel_rfl) (by kernel_rfl) {} ?_
 refine stN ?_
 refine Br.split (fun h => ?_) (fun h => ?_)
 ·have h : 128 ≤ a.toNat := by simpa using h
  refine stN ?_
  refine gC [] ?_ rfl trivial rfl
  exact congrArg D.u8 (aEB a h).symm
 ·have h : ¬ 128 ≤ a.toNat := by simpa using h
  refine stN ?_
  refine gC [] ?_ rfl trivial rfl
  exact congrArg D.u8 (aFR a h).symm
def rm1 (a b : BitVec 8) : Nat → Int
 |0 => 0
 |n + 1 => if b >>> n &&& 1 = 1 then (BitVec.ofInt 64 (rm1 a b n) ^^^ BitVec.ofInt 64 ((a.toNat : Int) * 2 ^ n)).toInt else rm1 a b n
def rm2 (p : Int) : Nat → Int
 |0 => p
 |k + 1 => if (BitVec.ofInt 64 (rm2 p k / 2 ^ (14 - k)) &&& BitVec.ofInt 64 1).toInt = 1 then (BitVec.ofInt 64 (rm2 p k) ^^^ BitVec.ofInt 64 (283 * 2 ^ (6 - k))).toInt else rm2 p k
def aJO (a b : BitVec 8) : BitVec 8 := BitVec.ofInt 8 (rm2 (rm1 a b 8) 7)
theorem aKC (n : Nat) (h : n < 100) : (BitVec.ofInt 64 (n : Int)).toNat = n := by
 rw [BitVec.ofInt_natCast, BitVec.toNat_ofNat]; omega
theorem aIa (n : Nat) (h : n < 15) : (0 : Int) < 2 ^ n ∧ (2 : Int) ^ n < 32768 := by
 have : ∀ n, n < 15 → (0 : Int) < 2 ^ n ∧ (2 : Int) ^ n < 32768 := by decide
 exact this n h
theorem aJN (a b : BitVec 8) : AC Tryz.prog 138 [.u8 a, .u8 b] 0 [] ⟨.u8 (aJO a b), [], []⟩ := by
 have ha : a.toNat < 256 := a.isLt
 refine cN tab mix Tryz.func138 rfl (by kernel_rfl) (by kernel_rfl) (by kernel_rfl) ⟨[4, 9], []⟩ ?_
 refine stN ?_
 refine aX Nat (fun n => [(0, .u8 a), (1, .u8 b), (5, .i64 (rm1 a b n)), (6, .i64 n)]) (fun _ => []) 0 (fun n => n ≤ 8) (fun n => 8 - n) 0 [] (Nat.zero_le _) ?_ ?_
 ·exact aN rfl ⟨rfl, rfl, rfl, rfl, trivial⟩ trivial rfl
 intro n hn
 refine stN ?_
 refine Br.split (fun h => ?_) (fun h => ?_)
 ·have hn : n < 8 := by have := of_decide_eq_true h; omega
  have e := aKC n (by omega)
  refine u2 Unit (fun _ => [(0, .u8 a), (1, .u8 b), (5, .i64 (rm1 a b (n + 1))), (6, .i64 n)]) (fun _ => []) 0 (fun _ => True) ?_ ?_
  ·repeat first | rw [e] | refine st1 ?_
   refine Br.split (fun h => ?_) (fun h => ?_)
   ·have h1 : b >>> n &&& 1 = 1 := of_decide_eq_true h
    have ⟨p1, p2⟩ := aIa n (by omega)
    have p3 : (0 : Int) ≤ (a.toNat : Int) * 2 ^ n := Int.mul_nonneg (by omega) (by omega)
    have p4 : (a.toNat : Int) * 2 ^ n ≤ 255 * 32768 := Int.mul_le_mul (by omega) (by omega) (by omega) (by omega)
    repeat first | rw [e] | (refine EffG.mk (And.intro ?_ ?_); focus (rw [e]; (repeat' (first | exact trivial | refine And.intro ?_ ?_)) <;> (first | omega | (simp only [aH, okP, xT, D.ren, D.isCell, Option.getD, List.length_set, List.length_take, List.length_drop, List.length_append, List.length_replicate, List.length_map, List.length_cons, List.length_nil, Option.map] <;> omega) | with_reducible assumption | with_reducible rfl | decide); done)) | refine st1 ?_
    refine iR () [] trivial (aN rfl ⟨rfl, rfl, congrArg (fun x => some (D.i64 x)) (if_pos h1).symm, rfl, trivial⟩ trivial rfl)
   ·have h1 : ¬ b >>> n &&& 1 = 1 := of_decide_eq_false h
    refine iR () [] trivial (aN rfl ⟨rfl, rfl, congrArg (fun x => some (D.i64 x)) (if_neg h1).symm, rfl, trivial⟩ trivial rfl)
  intro _ _
  refine stN ?_
  refine bQ (n + 1) [] ?_ ?_ ?_
  ·omega
  ·omega
  ·exact aN rfl ⟨rfl, rfl, rfl, rfl, trivial⟩ trivial rfl
 have hn : n = 8 := by have := of_decide_eq_false h; omega
 subst hn
 have hr : aJO a b = BitVec.ofInt 8 (rm2 (rm1 a b 8) 7) := rfl
 rw [hr]
 generalize rm1 a b 8 = p
 refine stN ?_
 refine aX Nat (fun k => [(5, .i64 (rm2 p k)), (7, .i64 (14 - k : Nat))]) (fun _ => []) 0 (fun k => k ≤ 7) (fun k => 7 - k) 0 [] (Nat.zero_le _) ?_ ?_
 ·exact aN rfl ⟨rfl, rfl, trivial⟩ trivial rfl
 intro k hk
 refine stN ?_
 refine Br.split (fun h => ?_) (fun h => ?_)
 ·have hk : k < 7 := by have := of_decide_eq_true h; omega
  have e := aKC (14 - k) (by omega)
  have e2 : ((14 - k : Nat) : Int) - 8 = ((6 - k : Nat) : Int) := by omega
  have e3 := aKC (6 - k) (by omega)
  refine u2 Unit (fun _ => [(5, .i64 (rm2 p (k + 1))), (7, .i64 (14 - k : Nat))]) (fun _ => []) 0 (fun _ => True) ?_ ?_
  ·repeat first | rw [e] | refine st1 ?_
   refine Br.split (fun h => ?_) (fun h => ?_)
   ·have h1 : (BitVec.ofInt 64 (rm2 p k / 2 ^ (14 - k)) &&& BitVec.ofInt 64 1).toInt = 1 := of_decide_eq_true h
    have ⟨p1, p2⟩ := aIa (6 - k) (by omega)
    repeat first | rw [e2] | rw [e3] | (refine EffG.mk (And.intro ?_ ?_); focus (rw [e3]; (repeat' (first | exact trivial | refine And.intro ?_ ?_)) <;> (first | omega | (simp only [aH, okP, xT, D.ren, D.isCell, Option.getD, List.length_set, List.length_take, List.length_drop, List.length_append, List.length_replicate, List.length_map, List.length_cons, List.length_nil, Option.map] <;> omega) | with_reducible assumption | with_reducible rfl | decide); done)) | refine st1 ?_
    refine iR () [] trivial (aN rfl ⟨congrArg (fun x => some (D.i64 x)) (if_pos h1).symm, rfl, trivial⟩ trivial rfl)
   ·have h1 : ¬ (BitVec.ofInt 64 (rm2 p k / 2 ^ (14 - k)) &&& BitVec.ofInt 64 1).toInt = 1 := of_decide_eq_false h
    refine iR () [] trivial (aN rfl ⟨congrArg (fun x => some (D.i64 x)) (if_neg h1).symm, rfl, trivial⟩ trivial rfl)
  intro _ _
  refine stN ?_
  refine bQ (k + 1) [] ?_ ?_ ?_
  ·omega
  ·omega
  ·exact aN rfl ⟨rfl, congrArg (fun x => some (D.i64 x)) (by omega), trivial⟩ trivial rfl
 have hk : k = 7 := by have := of_decide_eq_false h; omega
 subst hk
 refine stN ?_
 refine gC [] rfl rfl trivial rfl
def rndJ : Nat → BitVec 8
 |0 => 1
 |m + 1 => mulF (rndJ m) 2
def aF8 (a : BitVec 8) : Nat → BitVec 8
 |0 => 1
 |n + 1 => aJO (aF8 a n) a
theorem aJJ (a : BitVec 8) (ha : a ≠ 0) (n : Nat) (h1 : n < 255) : AC Tryz.prog 122 [.u8 a, .i64 n] 0 [] ⟨.u8 (aF8 a n), [], []⟩ := by
 have hrem : Int.tmod (n : Int) 255 = (n : Int) := Int.tmod_eq_of_lt (by omega) (by omega)
 refine cN tab mix Tryz.func122 rfl (by kernel_rfl) (by kernel_rfl) (by kernel_rfl) {} ?_
 refine stN ?_
 refine Br.no (decide_eq_false ha) ?_
 repeat first | rw [hrem] | refine st1 ?_
 refine Br.no (decide_eq_false (by omega)) ?_
 refine stN ?_
 refine aX Nat (fun i => [(0, .u8 a), (1, .i64 n), (5, .u8 (aF8 a i)), (6, .i64 i)]) (fun _ => []) 0 (fun i => i ≤ n) (fun i => n - i) 0 [] (Nat.zero_le _) ?_ ?_
 ·exact aN rfl ⟨rfl, rfl, rfl, rfl, trivial⟩ trivial rfl
 intro i hi
 refine stN ?_
 refine Br.split (fun h => ?_) (fun h => ?_)
 ·have hi : i < n := by have := of_decide_eq_true h; omega
  refine stN ?_
  refine bF (aJN _ _) [] rfl rfl trivial rfl rfl ?_
  refine stN ?_
  refine bQ (i + 1) [] ?_ ?_ ?_
  ·omega
  ·omega
  ·exact aN rfl ⟨rfl, rfl, rfl, rfl, trivial⟩ trivial rfl
 have hi : i = n := by have := of_decide_eq_false h; omega
 subst hi
 refine stN ?_
 refine gC [] rfl rfl trivial rfl
theorem aHU : ∀ m, m < 7 → aF8 2 m = rndJ m := by decide +kernel
section
variable (a : BitVec 8)
include a
theorem aFE : AC Tryz.prog 154 [.u8 a, .i64 9] 0 [] ⟨.u8 (0 ^^^ a ^^^ aF (aF (aF a))), [], []⟩ := by
 refine cN tab mix Tryz.func154 rfl (by kernel_rfl) (by kernel_rfl) (by kernel_rfl) ⟨[], [2]⟩ ?_
 refine stN ?_
 refine oI 5 ?_
 repeat first | refine st1 ?_ | refine bF (kO _) [] rfl rfl trivial rfl rfl ?_ | refine Br.yes rfl ?_ | refine Br.no rfl ?_
 refine gC [] rfl rfl trivial rfl
theorem aDs : AC Tryz.prog 154 [.u8 a, .i64 11] 0 [] ⟨.u8 (0 ^^^ a ^^^ aF a ^^^ aF (aF (aF a))), [], []⟩ := by
 refine cN tab mix Tryz.func154 rfl (by kernel_rfl) (by kernel_rfl) (by kernel_rfl) ⟨[], [2]⟩ ?_
 refine stN ?_
 refine oI 5 ?_
 repeat first | refine st1 ?_ | refine bF (kO _) [] rfl rfl trivial rfl rfl ?_ | refine Br.yes rfl ?_ | refine Br.no rfl ?_
 refine gC [] rfl rfl trivial rfl
theorem aDr : AC Tryz.prog 154 [.u8 a, .i64 13] 0 [] ⟨.u8 (0 ^^^ a ^^^ aF (aF a) ^^^ aF (aF (aF a))), [], []⟩ := by
 refine cN tab mix Tryz.func154 rfl (by kernel_rfl) (by kernel_rfl) (by kernel_rfl) ⟨[], [2]⟩ ?_
 refine stN ?_
 refine oI 5 ?_
 repeat first | refine st1 ?_ | refine bF (kO _) [] rfl rfl trivial rfl rfl ?_ | refine Br.yes rfl ?_ | refine Br.no rfl ?_
 refine gC [] rfl rfl trivial rfl
theorem aDq : AC Tryz.prog 154 [.u8 a, .i64 14] 0 [] ⟨.u8 (0 ^^^ aF a ^^^ aF (aF a) ^^^ aF (aF (aF a))), [], []⟩ := by
 refine cN tab mix Tryz.func154 rfl (by kernel_rfl) (by kernel_rfl) (by kernel_rfl) ⟨[], [2]⟩ ?_
 refine stN ?_
 refine oI 5 ?_
 repeat first | refine st1 ?_ | refine bF (kO _) [] rfl rfl trivial rfl rfl ?_ | refine Br.yes rfl ?_ | refine Br.no rfl ?_
 refine gC [] rfl rfl trivial rfl
end
abbrev jG : Ty := .arr 256 .cell
abbrev gB : Mem := [(gid 0, some ⟨jG, .u8s boxL, false⟩)]
abbrev t60 : Ty := .arr 60 (.arr 4 .cell)
theorem gx1 (b : BitVec 8) : (0 ≤ (b.toNat : Int) ∧ (b.toNat : Int) < ((256 : Nat) : Int)) := by
 have := b.isLt
 omega
theorem gx2 (b : BitVec 8) : ((b.toNat : Int).toNat < boxL.length ∧ True) := by
 have := b.isLt
 rw [eZ, Int.toNat_natCast]
 exact ⟨by omega, trivial⟩
def rtF (ws : List B8) (i : Nat) : B8 :=
 let t := ws.getD (i - 1) []
 if i % 8 = 0 then [f9 (t.getD 1 0) ^^^ aF8 2 (i / 8 - 1), f9 (t.getD 2 0), f9 (t.getD 3 0), f9 (t.getD 0 0)]
 else if i % 8 = 4 then [f9 (t.getD 0 0), f9 (t.getD 1 0), f9 (t.getD 2 0), f9 (t.getD 3 0)] else t
def rkI (ws : List B8) (i : Nat) (t : B8) : Nat → List B8
 |0 => ws
 |k + 1 => (rkI ws i t k).set i (((rkI ws i t k).getD i []).set k (((rkI ws i t k).getD (i - 8) []).getD k 0 ^^^ t.getD k 0))
def rwI (key : B8) : Nat → List B8
 |0 => List.replicate 60 (List.replicate 4 0)
 |i + 1 => if i < 8 then (rwI key i).set i [key.getD (4 * i) 0, key.getD (4 * i + 1) 0, key.getD (4 * i + 2) 0, key.getD (4 * i + 3) 0]
  else rkI (rwI key i) i (rtF (rwI key i) i) 4
def roK (ws o : List B8) (i : Nat) : Nat → List B8
 |0 => o
 |k + 1 => (roK ws o i k).set (i / 4) (((roK ws o i k).getD (i / 4) []).set (4 * (i % 4) + k) ((ws.getD i []).getD k 0))
def roI (ws : List B8) : Nat → List B8
 |0 => List.replicate 15 (List.replicate 16 0)
 |i + 1 => roK ws (roI ws i) i 4
def aCD (key : B8) : List B8 := roI (rwI key 60) 60
theorem aEC {ws : List B8} (h : Rows 60 4 ws) (i : Nat) (hi : i < 60) : (rtF ws i).length = 4 := by
 unfold rtF
 simp only []
 split
 ·rfl
 ·split
  ·rfl
  ·exact h.get (by omega)
theorem nJ {ws : List B8} (h : Rows 60 4 ws) (i : Nat) (hi : i < 60) (t : B8) : ∀ k, Rows 60 4 (rkI ws i t k)
 |0 => h
 |k + 1 => (nJ h i hi t k).set i (by rw [List.length_set]; exact (nJ h i hi t k).get hi)
theorem qJ (key : B8) : ∀ i, i ≤ 60 → Rows 60 4 (rwI key i)
 |0, _ => Rows.rep 60 4
 |i + 1, h => by
  have ih := qJ key i (by omega)
  rw [rwI]
  split
  ·exact ih.set i rfl
  ·exact nJ ih i (by omega) _ 4
theorem nG {o : List B8} (ws : List B8) (h : Rows 15 16 o) (i : Nat) (hi : i < 60) : ∀ k, Rows 15 16 (roK ws o i k)
 |0 => h
 |k + 1 => (nG ws h i hi k).set _ (by rw [List.length_set]; exact (nG ws h i hi k).get (by omega))
theorem qM (ws : List B8) : ∀ i, i ≤ 60 → Rows 15 16 (roI ws i)
 |0, _ => Rows.rep 15 16
 |i + 1, h => by rw [roI]; exact nG ws (qM ws i (by omega)) i (by omega) 4
theorem aF7 (key : B8) (hk : key.length = 32) : AC Tryz.prog 85 [.u8s key] 0 gB ⟨.node ((aCD key).map .u8s), [], []⟩ := by
 refine cN tab mix Tryz.func85 rfl (by kernel_rfl) (by kernel_rfl) (by kernel_rfl) ⟨[12], []⟩ ?_
 refine stN ?_
 refine aX Nat (fun i => [(1, .ptr 0 []), (2, .ptr 1 []), (3, .ptr 2 []), (4, .i64 i)])
  (fun i => [(0, some ⟨t32, .u8s key, true⟩), (1, some ⟨t15, .node (List.replicate 15 (.u8s (List.replicate 16 0))), true⟩), (2, some ⟨t60, .node ((rwI key i).map .u8s), true⟩), (gid 0, some ⟨jG, .u8s boxL, false⟩)]) 3
  (fun i => i ≤ 60) (fun i => 60 - i) 0 [0, 1, 2] (Nat.zero_le _) ?_ ?_
 ·exact aN rfl ⟨rfl, rfl, rfl, rfl, trivial⟩ ⟨⟨_, rfl, rfl, rfl, id⟩, ⟨_, rfl, rfl, rfl, id⟩, ⟨_, rfl, rfl, rfl, id⟩, ⟨_, rfl, rfl, rfl, id⟩, trivial⟩ rfl
 intro i hi
 have hr := qJ key i hi
 have hl : ((rwI key i).map D.u8s).length = 60 := by rw [List.length_map, hr.1]
 refine stN ?_
 refine Br.split (fun h => ?_) (fun h => ?_)
 ·have hi : i < 60 := by have := of_decide_eq_true h; omega
  refine stN ?_
  refine Br.split (fun h => ?_) (fun h => ?_)
  ·have h8 : i < 8 := by have := of_decide_eq_true h; omega
   refine stN ?_
   refine bQ (i + 1) [0, 1, 2] ?_ ?_ ?_
   ·omega
   ·omega
   ·refine aN rfl ⟨rfl, rfl, rfl, rfl, trivial⟩ ⟨⟨_, rfl, rfl, rfl, id⟩, ⟨_, rfl, rfl, rfl, id⟩, ⟨_, rfl, rfl, ?_, id⟩, ⟨_, rfl, rfl, rfl, id⟩, trivial⟩ rfl
    rw [aD, rwI, if_pos h8, List.map_set]
    rfl
  ·have h8 : ¬ i < 8 := by have := of_decide_eq_false h; omega
   have q1 : (i : Int) - 1 = ((i - 1 : Nat) : Int) := by omega
   have ht0 : ((rwI key i).getD (i - 1) []).length = 4 := hr.get (by omega)
   have htl := aEC hr i hi
   have q4 : Int.tmod (i : Int) 8 = ((i % 8 : Nat) : Int) := (Int.ofNat_tmod i 8).symm
   have q5 : Int.tdiv (i : Int) 8 = ((i / 8 : Nat) : Int) := (Int.ofNat_tdiv i 8).symm
   repeat first | rw [q1] | (rw [bL (l := rwI key i)]; rotate_left; (rw [hr.1]; omega)) | rw [Int.toNat_natCast (i - 1)] | refine st1 ?_
   refine u2 Unit (fun _ => [(1, .ptr 0 []), (2, .ptr 1 []), (3, .ptr 2 []), (4, .i64 i), (5, .ptr 3 [])])
    (fun _ => [(0, some ⟨t32, .u8s key, true⟩), (1, some ⟨t15, .node (List.replicate 15 (.u8s (List.replicate 16 0))), true⟩), (2, some ⟨t60, .node ((rwI key i).map .u8s), true⟩), (3, some ⟨t4, .u8s (rtF (rwI key i) i), true⟩), (gid 0, some ⟨jG, .u8s boxL, false⟩)]) 4 (fun _ => True) ?_ ?_
   ·repeat first | rw [q4] | refine st1 ?_
    refine Br.split (fun h0 => ?_) (fun h0 => ?_)
    ·have h0 : i % 8 = 0 := by have := of_decide_eq_true h0; omega
     have q6 : ((i / 8 : Nat) : Int) - 1 = ((i / 8 - 1 : Nat) : Int) := by omega
     repeat first | rw [q5] | rw [q6] | refine EffG.mk (And.intro (gx1 _) ?_) | refine EffG.mk (And.intro (gx2 _) ?_) | refine st1 ?_
     refine bF (aJJ 2 (by decide) (i / 8 - 1) (by omega)) [] rfl rfl trivial rfl rfl ?_
     repeat first | refine EffG.mk (And.intro (gx1 _) ?_) | refine EffG.mk (And.intro (gx2 _) ?_) | refine st1 ?_
     refine iR () [0, 1, 2, 3] trivial (aN rfl ⟨rfl, rfl, rfl, rfl, rfl, trivial⟩ ⟨⟨_, rfl, rfl, rfl, id⟩, ⟨_, rfl, rfl, rfl, id⟩, ⟨_, rfl, rfl, (aD _ _).symm, id⟩, ⟨_, rfl, rfl, congrArg D.u8s ?_, id⟩, ⟨_, rfl, rfl, rfl, id⟩, trivial⟩ rfl)
     unfold rtF
     rw [if_pos h0]
     rfl
    ·have h0 : ¬ i % 8 = 0 := by have := of_decide_eq_false h0; omega
     repeat first | rw [q4] | refine st1 ?_
     refine Br.split (fun h4 => ?_) (fun h4 => ?_)
     ·have h4 : i % 8 = 4 := by have := of_decide_eq_true h4; omega
      repeat first | refine EffG.mk (And.intro (gx1 _) ?_) | refine EffG.mk (And.intro (gx2 _) ?_) | refine st1 ?_
      refine iR () [0, 1, 2, 3] trivial (aN rfl ⟨rfl, rfl, rfl, rfl, rfl, trivial⟩ ⟨⟨_, rfl, rfl, rfl, id⟩, ⟨_, rfl, rfl, rfl, id⟩, ⟨_, rfl, rfl, (aD _ _).symm, id⟩, ⟨_, rfl, rfl, congrArg D.u8s ?_, id⟩, ⟨_, rfl, rfl, rfl, id⟩, trivial⟩ rfl)
      unfold rtF
      rw [if_neg h0, if_pos h4]
      rfl
     ·have h4 : ¬ i % 8 = 4 := by have := of_decide_eq_false h4; omega
      refine iR () [0, 1, 2, 3] trivial (aN rfl ⟨rfl, rfl, rfl, rfl, rfl, trivial⟩ ⟨⟨_, rfl, rfl, rfl, id⟩, ⟨_, rfl, rfl, rfl, id⟩, ⟨_, rfl, rfl, (aD _ _).symm, id⟩, ⟨_, rfl, rfl, congrArg D.u8s ?_, id⟩, ⟨_, rfl, rfl, rfl, id⟩, trivial⟩ rfl)
      unfold rtF
      rw [if_neg h0, if_neg h4]
   intro _ _
   have hnext : rwI key (i + 1) = rkI (rwI key i) i (rtF (rwI key i) i) 4 := by rw [rwI, if_neg h8]
   generalize rtF (rwI key i) i = t at htl hnext ⊢
   generalize rwI key i = ws at hr hl hnext ⊢
   refine stN ?_
   refine aX Nat (fun k => [(1, .ptr 0 []), (2, .ptr 1 []), (3, .ptr 2 []), (4, .i64 i), (5, .ptr 3 []), (6, .i64 k)])
    (fun k => [(0, some ⟨t32, .u8s key, true⟩), (1, some ⟨t15, .node (List.replicate 15 (.u8s (List.replicate 16 0))), true⟩), (2, some ⟨t60, .node ((rkI ws i t k).map .u8s), true⟩), (3, some ⟨t4, .u8s t, true⟩), (gid 0, some ⟨jG, .u8s boxL, false⟩)]) 4
    (fun k => k ≤ 4) (fun k => 4 - k) 0 [0, 1, 2, 3] (Nat.zero_le _) ?_ ?_
   ·exact aN rfl ⟨rfl, rfl, rfl, rfl, rfl, rfl, trivial⟩ ⟨⟨_, rfl, rfl, rfl, id⟩, ⟨_, rfl, rfl, rfl, id⟩, ⟨_, rfl, rfl, (aD _ _).symm, id⟩, ⟨_, rfl, rfl, rfl, id⟩, ⟨_, rfl, rfl, rfl, id⟩, trivial⟩ rfl
   intro k hk4
   have hv := nJ hr i hi t k
   refine stN ?_
   refine Br.split (fun h => ?_) (fun h => ?_)
   ·have hk4 : k < 4 := by have := of_decide_eq_true h; omega
    have p1 : (i : Int) - 8 = ((i - 8 : Nat) : Int) := by omega
    have hv1 : (rkI ws i t k).length = 60 := hv.1
    have hv2 : ((rkI ws i t k).getD (i - 8) []).length = 4 := hv.get (by omega)
    have hv3 : ((rkI ws i t k).getD i []).length = 4 := hv.get hi
    repeat first | rw [p1] | rw [Int.toNat_natCast] | refine st1 ?_
    refine aCU (.u8 (((rkI ws i t k).getD (i - 8) []).getD k 0)) rfl rfl rfl rfl rfl (qW k (by omega)) (xO (by omega) (by omega)) ?_
    repeat first | rw [Int.toNat_natCast] | refine st1 ?_
    refine lK (.node ((rkI ws i t (k + 1)).map .u8s)) rfl rfl rfl rfl rfl rfl rfl (qW k (by omega)) (aCo k _ (by omega)) (xO (by omega) (by omega)) rfl ?_
    refine stN ?_
    refine bQ (k + 1) [0, 1, 2, 3] ?_ ?_ ?_
    ·omega
    ·omega
    ·exact aN rfl ⟨rfl, rfl, rfl, rfl, rfl, rfl, trivial⟩ ⟨⟨_, rfl, rfl, rfl, id⟩, ⟨_, rfl, rfl, rfl, id⟩, ⟨_, rfl, rfl, (aD _ _).symm, id⟩, ⟨_, rfl, rfl, rfl, id⟩, ⟨_, rfl, rfl, rfl, id⟩, trivial⟩ rfl
   ·have hk4 : k = 4 := by have := of_decide_eq_false h; omega
    subst hk4
    refine stN ?_
    refine bQ (i + 1) [0, 1, 2] ?_ ?_ ?_
    ·omega
    ·omega
    ·refine aN rfl ⟨rfl, rfl, rfl, rfl, trivial⟩ ⟨⟨_, rfl, rfl, rfl, id⟩, ⟨_, rfl, rfl, rfl, id⟩, ⟨_, rfl, rfl, ?_, id⟩, ⟨_, rfl, rfl, rfl, id⟩, trivial⟩ rfl
     rw [aD, hnext]
 ·have hi : i = 60 := by have := of_decide_eq_false h; omega
  subst hi
  have hout : aCD key = roI (rwI key 60) 60 := rfl
  rw [hout]
  generalize rwI key 60 = ws at hr hl ⊢
  refine stN ?_
  refine aX Nat (fun i => [(2, .ptr 1 []), (3, .ptr 2 []), (7, .ptr 3 []), (8, .i64 i)])
   (fun i => [(1, some ⟨t15, .node (List.replicate 15 (.u8s (List.replicate 16 0))), true⟩), (2, some ⟨t60, .node (ws.map .u8s), true⟩), (3, some ⟨t15, .node ((roI ws i).map .u8s), true⟩), (gid 0, some ⟨jG, .u8s boxL, false⟩)]) 4
   (fun i => i ≤ 60) (fun i => 60 - i) 0 [0, 1, 2, 3] (Nat.zero_le _) ?_ ?_
  ·exact aN rfl ⟨rfl, rfl, rfl, rfl, trivial⟩ ⟨⟨_, rfl, rfl, rfl, id⟩, ⟨_, rfl, rfl, (aD _ _).symm, id⟩, ⟨_, rfl, rfl, rfl, id⟩, ⟨_, rfl, rfl, rfl, id⟩, trivial⟩ rfl
  intro i hi
  have hq := qM ws i hi
  refine stN ?_
  refine Br.split (fun h => ?_) (fun h => ?_)
  ·have hi : i < 60 := by have := of_decide_eq_true h; omega
   refine stN ?_
   refine aX Nat (fun k => [(2, .ptr 1 []), (3, .ptr 2 []), (7, .ptr 3 []), (8, .i64 i), (9, .i64 k)])
    (fun k => [(1, some ⟨t15, .node (List.replicate 15 (.u8s (List.replicate 16 0))), true⟩), (2, some ⟨t60, .node (ws.map .u8s), true⟩), (3, some ⟨t15, .node ((roK ws (roI ws i) i k).map .u8s), true⟩), (gid 0, some ⟨jG, .u8s boxL, false⟩)]) 4
    (fun k => k ≤ 4) (fun k => 4 - k) 0 [0, 1, 2, 3] (Nat.zero_le _) ?_ ?_
   ·exact aN rfl ⟨rfl, rfl, rfl, rfl, rfl, trivial⟩ ⟨⟨_, rfl, rfl, rfl, id⟩, ⟨_, rfl, rfl, (aD _ _).symm, id⟩, ⟨_, rfl, rfl, (aD _ _).symm, id⟩, ⟨_, rfl, rfl, rfl, id⟩, trivial⟩ rfl
   intro k hk4
   have hv := nG ws hq i hi k
   refine stN ?_
   refine Br.split (fun h => ?_) (fun h => ?_)
   ·have hk4 : k < 4 := by have := of_decide_eq_true h; omega
    have q4 : Int.tmod (i : Int) 4 = ((i % 4 : Nat) : Int) := (Int.ofNat_tmod i 4).symm
    have q5 : Int.tdiv (i : Int) 4 = ((i / 4 : Nat) : Int) := (Int.ofNat_tdiv i 4).symm
    have q6 : 4 * ((i % 4 : Nat) : Int) + (k : Int) = ((4 * (i % 4) + k : Nat) : Int) := by omega
    have hr1 : ws.length = 60 := hr.1
    have hr2 : (ws.getD i []).length = 4 := hr.get hi
    have hv1 : (roK ws (roI ws i) i k).length = 15 := hv.1
    have hv2 : ((roK ws (roI ws i) i k).getD (i / 4) []).length = 16 := hv.get (by omega)
    repeat first | rw [q4] | rw [q5] | rw [q6] | rw [Int.toNat_natCast] | (refine EffG.mk (And.intro ?_ ?_); focus (rw [q5]; (repeat' (first | exact trivial | refine And.intro ?_ ?_)) <;> (first | omega | (simp only [aH, okP, xT, D.ren, D.isCell, Option.getD, List.length_set, List.length_take, List.length_drop, List.length_append, List.length_replicate, List.length_map, List.length_cons, List.length_nil, Option.map] <;> omega) | with_reducible assumption | with_reducible rfl | decide); done)) | refine st1 ?_
    refine aCU (.u8 ((ws.getD i []).getD k 0)) rfl rfl rfl rfl rfl (qW k (by omega)) (xO (by omega) (by omega)) ?_
    repeat first | rw [Int.toNat_natCast] | refine st1 ?_
    refine lK (.node ((roK ws (roI ws i) i (k + 1)).map .u8s)) rfl rfl rfl rfl rfl rfl rfl (qW (4 * (i % 4) + k) (by omega)) (aCo (4 * (i % 4) + k) _ (by omega)) (xO (by omega) (by omega)) rfl ?_
    refine stN ?_
    refine bQ (k + 1) [0, 1, 2, 3] ?_ ?_ ?_
    ·omega
    ·omega
    ·exact aN rfl ⟨rfl, rfl, rfl, rfl, rfl, trivial⟩ ⟨⟨_, rfl, rfl, rfl, id⟩, ⟨_, rfl, rfl, (aD _ _).symm, id⟩, ⟨_, rfl, rfl, (aD _ _).symm, id⟩, ⟨_, rfl, rfl, rfl, id⟩, trivial⟩ rfl
   ·have hk4 : k = 4 := by have := of_decide_eq_false h; omega
    subst hk4
    refine stN ?_
    refine bQ (i + 1) [0, 1, 2, 3] ?_ ?_ ?_
    ·omega
    ·omega
    ·refine aN rfl ⟨rfl, rfl, rfl, rfl, trivial⟩ ⟨⟨_, rfl, rfl, rfl, id⟩, ⟨_, rfl, rfl, (aD _ _).symm, id⟩, ⟨_, rfl, rfl, ?_, id⟩, ⟨_, rfl, rfl, rfl, id⟩, trivial⟩ rfl
     rw [aD, roI]
  ·have hi : i = 60 := by have := of_decide_eq_false h; omega
   subst hi
   generalize roI ws 60 = o at hq ⊢
   refine stN ?_
   refine EffG.mk (And.intro ⟨trivial, hq.ty⟩ ?_)
   refine stN ?_
   refine gC [] ?_ rfl ⟨⟨_, rfl, rfl, rfl, id⟩, trivial⟩ rfl
   exact congrArg D.node (aC _ _).symm
def rndI : Nat → BitVec 8
 |0 => 1
 |m + 1 => mulF (rndI m) 2
theorem pJ (key : B8) : ∀ n, (bJ key n).2 = rndI ((n + 7) / 8)
 |0 => rfl
 |n + 1 => by
  show (if n % 8 = 0 then mulF (bJ key n).2 2 else (bJ key n).2) = _
  rw [pJ key n]
  by_cases h : n % 8 = 0
  ·rw [if_pos h, show (n + 1 + 7) / 8 = (n + 7) / 8 + 1 by omega]; rfl
  ·rw [if_neg h, show (n + 1 + 7) / 8 = (n + 7) / 8 by omega]
theorem xL (f w : B8) (n : Nat) (hf : 32 + 4 * n + 4 ≤ f.length) : ∀ k, k ≤ 4 → ∀ i, i < 32 + 4 * n → (aFu f w n k).getD i 0 = f.getD i 0
 |0, _, _, _ => rfl
 |k + 1, hk, i, hi => by
  rw [aFu, bW (by rw [gD]; omega), if_neg (by omega)]
  exact xL f w n hf k (by omega) i hi
theorem aDN (f w : B8) (n : Nat) (hf : 32 + 4 * n + 4 ≤ f.length) : ∀ k, k ≤ 4 → ∀ j, j < k → (aFu f w n k).getD (32 + 4 * n + j) 0 = f.getD (4 * n + j) 0 ^^^ w.getD j 0
 |0, _, j, hj => by omega
 |k + 1, hk, j, hj => by
  rw [aFu, bW (by rw [gD]; omega)]
  by_cases h : j = k
  ·subst h
   rw [if_pos rfl, xL f w n hf j (by omega) (4 * n + j) (by omega)]
  ·rw [if_neg (by omega)]
   exact aDN f w n hf k (by omega) j (by omega)
section
variable (key : B8) (hk : key.length = 32)
include hk
theorem aFY (n : Nat) (hn : n < 52) (i : Nat) (hi : i < 32 + 4 * n) : (bJ key (n + 1)).1.getD i 0 = (bJ key n).1.getD i 0 :=
 xL _ _ _ (by rw [eE key hk]; omega) 4 (Nat.le_refl _) i hi
theorem vM (n i : Nat) (hi : i < 32 + 4 * n) : ∀ d, n + d ≤ 52 → (bJ key (n + d)).1.getD i 0 = (bJ key n).1.getD i 0
 |0, _ => rfl
 |d + 1, h => by
  rw [← Nat.add_assoc, aFY key hk (n + d) (by omega) i (by omega)]
  exact vM n i hi d (by omega)
theorem qI (n i : Nat) (hn : n ≤ 52) (hi : i < 32 + 4 * n) : (bJ key 52).1.getD i 0 = (bJ key n).1.getD i 0 := by
 have := vM key hk n i hi (52 - n) (by omega)
 rwa [show n + (52 - n) = 52 by omega] at this
theorem aIF (i : Nat) (hi : i < 32) : (bJ key 52).1.getD i 0 = key.getD i 0 := by
 rw [qI key hk 0 i (by omega) (by omega)]
 show (List.take 0 (List.replicate 240 0) ++ List.take 32 (List.drop 0 key) ++ List.drop (0 + 32) (List.replicate 240 0)).getD i 0 = _
 rw [List.take_zero, List.nil_append, List.drop_zero, fN (by rw [List.length_take, hk]; omega), kE hi]
theorem aG9 (n j : Nat) (hn : n < 52) (hj : j < 4) : (bJ key 52).1.getD (32 + 4 * n + j) 0 = (bJ key 52).1.getD (4 * n + j) 0 ^^^ (p9 (bJ key n).1 (bJ key n).2 n).getD j 0 := by
 rw [qI key hk (n + 1) (32 + 4 * n + j) (by omega) (by omega), qI key hk n (4 * n + j) (by omega) (by omega)]
 exact aDN _ _ _ (by rw [eE key hk]; omega) 4 (Nat.le_refl _) j hj
theorem aAt (n j : Nat) (hn : n < 52) (hj : j < 4) : (((bJ key n).1.drop (28 + 4 * n)).take 4).getD j 0 = (bJ key 52).1.getD (28 + 4 * n + j) 0 := by
 rw [kE hj, kF, qI key hk n _ (by omega) (by omega)]
end
theorem aFz (fl : B8) : ∀ n, n ≤ 15 → ∀ j, j < n → (aGA fl n).getD j [] = (fl.drop (16 * j)).take 16
 |0, _, j, hj => by omega
 |n + 1, hn, j, hj => by
  rw [aGA, bW (by rw [gF]; omega)]
  by_cases h : j = n
  ·rw [if_pos h, h]
  ·rw [if_neg h]
   exact aFz fl n (by omega) j (by omega)
theorem aJk (key : B8) (i : Nat) (h : i < 240) : ((bO key).getD (i / 16) []).getD (i % 16) 0 = (bJ key 52).1.getD i 0 := by
 unfold bO
 rw [aFz _ 15 (Nat.le_refl _) (i / 16) (by omega), kE (by omega), kF, show 16 * (i / 16) + i % 16 = i by omega]
theorem yD {l r : B8} (h : l.length = r.length) (hi : ∀ i, i < l.length → l.getD i 0 = r.getD i 0) : l = r := by
 refine List.ext_getElem h fun i h1 h2 => ?_
 have := hi i h1
 rwa [List.getD_eq_getElem?_getD, List.getD_eq_getElem?_getD, List.getElem?_eq_getElem h1, List.getElem?_eq_getElem h2] at this
theorem aFd : ∀ m, rndJ m = rndI m
 |0 => rfl
 |m + 1 => by rw [rndJ, rndI, aFd m]
theorem aCF {ws : List B8} (h : Rows 60 4 ws) (i : Nat) (h8 : 8 ≤ i) (hi : i < 60) (t : B8) : ∀ k, k ≤ 4 →
  (∀ j, j ≠ i → (rkI ws i t k).getD j [] = ws.getD j []) ∧ ∀ m, m < k → ((rkI ws i t k).getD i []).getD m 0 = (ws.getD (i - 8) []).getD m 0 ^^^ t.getD m 0
 |0, _ => ⟨fun _ _ => rfl, fun m hm => by omega⟩
 |k + 1, hk => by
  obtain ⟨h1, h2⟩ := aCF h i h8 hi t k (by omega)
  have hr := nJ h i hi t k
  have hl := hr.1
  have hl2 := hr.get hi
  refine ⟨fun j hj => ?_, fun m hm => ?_⟩
  ·rw [rkI, bW (by omega), if_neg hj, h1 j hj]
  ·rw [rkI, bW (by omega), if_pos rfl, bW (by omega)]
   by_cases e : m = k
   ·subst e
    rw [if_pos rfl, h1 (i - 8) (by omega)]
   ·rw [if_neg e]
    exact h2 m (by omega)
theorem aHQ (key : B8) (i j : Nat) (hi : i < 60) (hj : j ≠ i) : (rwI key (i + 1)).getD j [] = (rwI key i).getD j [] := by
 have hr := qJ key i (by omega)
 have hl := hr.1
 rw [rwI]
 split
 ·rw [bW (by omega), if_neg hj]
 ·exact (aCF hr i (by omega) hi _ 4 (Nat.le_refl _)).1 j hj
theorem aCr (key : B8) (i j : Nat) (hj : j < i) : ∀ d, i + d ≤ 60 → (rwI key (i + d)).getD j [] = (rwI key i).getD j []
 |0, _ => rfl
 |d + 1, h => by
  rw [← Nat.add_assoc, aHQ key (i + d) j (by omega) (by omega)]
  exact aCr key i j hj d (by omega)
theorem aFZ (key : B8) (i j : Nat) (hj : j < i) (hi : i ≤ 60) : (rwI key 60).getD j [] = (rwI key i).getD j [] := by
 have := aCr key i j hj (60 - i) (by omega)
 rwa [show i + (60 - i) = 60 by omega] at this
theorem aJH (key : B8) (hk : key.length = 32) : ∀ i, i < 60 → ∀ k, k < 4 → ((rwI key 60).getD i []).getD k 0 = (bJ key 52).1.getD (4 * i + k) 0 := by
 intro i
 induction i using Nat.strongRecOn with
 |_ i ih =>
  intro hi k hk4
  have hr := qJ key i (by omega)
  have hl := hr.1
  rw [aFZ key (i + 1) i (by omega) (by omega), rwI]
  by_cases h8 : i < 8
  ·rw [if_pos h8, bW (by omega), if_pos rfl, aIF key hk (4 * i + k) (by omega)]
   rcases (by omega : k = 0 ∨ k = 1 ∨ k = 2 ∨ k = 3) with rfl | rfl | rfl | rfl <;> rfl
  ·rw [if_neg h8, (aCF hr i (by omega) hi _ 4 (Nat.le_refl _)).2 k hk4, ← aFZ key i (i - 8) (by omega) (by omega), ih (i - 8) (by omega) (by omega) k hk4]
   obtain ⟨n, rfl⟩ : ∃ n, i = 8 + n := ⟨i - 8, by omega⟩
   have hn : n < 52 := by omega
   have e1 : 4 * (8 + n) + k = 32 + 4 * n + k := by omega
   have e2 : 4 * (8 + n - 8) + k = 4 * n + k := by omega
   rw [e1, e2, aG9 key hk n k hn hk4]
   have ht : ∀ m, m < 4 → ((rwI key (8 + n)).getD (8 + n - 1) []).getD m 0 = (bJ key 52).1.getD (28 + 4 * n + m) 0 := fun m hm => by
    rw [← aFZ key (8 + n) (8 + n - 1) (by omega) (by omega), ih (8 + n - 1) (by omega) (by omega) m hm]
    congr 1
    omega
   have w0 := (aAt key hk n 0 hn (by omega)).trans (ht 0 (by omega)).symm
   have w1 := (aAt key hk n 1 hn (by omega)).trans (ht 1 (by omega)).symm
   have w2 := (aAt key hk n 2 hn (by omega)).trans (ht 2 (by omega)).symm
   have w3 := (aAt key hk n 3 hn (by omega)).trans (ht 3 (by omega)).symm
   have wk := (aAt key hk n k hn hk4).trans (ht k hk4).symm
   congr 1
   rw [pJ]
   unfold rtF p9
   simp only [w0, w1, w2, w3]
   have e3 : (8 + n) % 8 = n % 8 := by omega
   have e4 : n % 8 = 0 → (n + 7) / 8 = (8 + n) / 8 - 1 := by omega
   rw [e3]
   by_cases h0 : n % 8 = 0
   ·rw [if_pos h0, if_pos h0, e4 h0, aHU _ (by omega), aFd]
   ·rw [if_neg h0, if_neg h0]
    by_cases h4 : n % 8 = 4
    ·rw [if_pos h4, if_pos h4]
    ·rw [if_neg h4, if_neg h4, wk]
theorem aFa {o : List B8} (ws : List B8) (h : Rows 15 16 o) (i : Nat) (hi : i < 60) : ∀ k, k ≤ 4 → ∀ j m, j < 15 → m < 16 →
  ((roK ws o i k).getD j []).getD m 0 = if 4 * i ≤ 16 * j + m ∧ 16 * j + m < 4 * i + k then (ws.getD i []).getD (m % 4) 0 else (o.getD j []).getD m 0
 |0, _, j, m, _, _ => by rw [if_neg (by omega)]; rfl
 |k + 1, hk, j, m, hj, hm => by
  have hr := nG ws h i hi k
  have hl := hr.1
  have hl2 : ((roK ws o i k).getD (i / 4) []).length = 16 := hr.get (by omega)
  have ih := aFa ws h i hi k (by omega) j m hj hm
  rw [roK, bW (by omega)]
  by_cases hji : j = i / 4
  ·rw [if_pos hji, bW (by omega)]
   by_cases hmk : m = 4 * (i % 4) + k
   ·rw [if_pos hmk, if_pos (by omega), show m % 4 = k by omega]
   ·rw [if_neg hmk, ← hji, ih]
    by_cases hc : 4 * i ≤ 16 * j + m ∧ 16 * j + m < 4 * i + k
    ·rw [if_pos hc, if_pos (by omega)]
    ·rw [if_neg hc, if_neg (by omega)]
  ·rw [if_neg hji, ih]
   by_cases hc : 4 * i ≤ 16 * j + m ∧ 16 * j + m < 4 * i + k
   ·rw [if_pos hc, if_pos (by omega)]
   ·rw [if_neg hc, if_neg (by omega)]
theorem aFb (ws : List B8) : ∀ i, i ≤ 60 → ∀ j m, j < 15 → m < 16 → 16 * j + m < 4 * i → ((roI ws i).getD j []).getD m 0 = (ws.getD ((16 * j + m) / 4) []).getD (m % 4) 0
 |0, _, j, m, _, _, h => by omega
 |i + 1, hi, j, m, hj, hm, h => by
  rw [roI, aFa ws (qM ws i (by omega)) i (by omega) 4 (Nat.le_refl _) j m hj hm]
  by_cases hc : 4 * i ≤ 16 * j + m ∧ 16 * j + m < 4 * i + 4
  ·rw [if_pos hc, show (16 * j + m) / 4 = i by omega]
  ·rw [if_neg hc]
   exact aFb ws i (by omega) j m hj hm (by omega)
theorem aHV {n m : Nat} {a b : List B8} (ha : Rows n m a) (hb : Rows n m b) (h : ∀ i, i < n → ∀ k, k < m → (a.getD i []).getD k 0 = (b.getD i []).getD k 0) : a = b := by
 refine List.ext_getElem (ha.1.trans hb.1.symm) fun i h1 h2 => ?_
 have hi : i < n := by rw [← ha.1]; exact h1
 have e1 : a[i] = a.getD i [] := by rw [List.getD_eq_getElem?_getD, List.getElem?_eq_getElem h1]; rfl
 have e2 : b[i] = b.getD i [] := by rw [List.getD_eq_getElem?_getD, List.getElem?_eq_getElem h2]; rfl
 rw [e1, e2]
 refine yD ((ha.get hi).trans (hb.get hi).symm) fun k hk => h i hi k (by rw [← ha.get hi]; exact hk)
theorem aED (key : B8) : Rows 15 16 (aCD key) := by
 unfold aCD
 exact qM (rwI key 60) 60 (Nat.le_refl 60)
theorem aHS (key : B8) (j m : Nat) (hj : j < 15) (hm : m < 16) : ((aCD key).getD j []).getD m 0 = ((rwI key 60).getD ((16 * j + m) / 4) []).getD (m % 4) 0 := by
 unfold aCD
 exact aFb (rwI key 60) 60 (Nat.le_refl 60) j m hj hm (by omega)
theorem aF6 (key : B8) (hk : key.length = 32) : aCD key = bO key := by
 have h2 : Rows 15 16 (bO key) := ⟨i3 key, lR key hk⟩
 refine aHV (aED key) h2 fun j hj m hm => ?_
 have e := aJk key (16 * j + m) (by omega)
 have e1 : (16 * j + m) / 16 = j := by omega
 have e2 : (16 * j + m) % 16 = m := by omega
 have e3 : 4 * ((16 * j + m) / 4) + m % 4 = 16 * j + m := by omega
 have e4 := aJH key hk ((16 * j + m) / 4) (by omega) (m % 4) (by omega)
 rw [e3] at e4
 rw [e1, e2] at e
 exact (aHS key j m hj hm).trans (e4.trans e.symm)
def gW (ix : Nat → Nat) (v : Nat → BitVec 8) (s : B8) : Nat → B8
 |0 => s
 |n + 1 => (gW ix v s n).set (ix n) (v n)
theorem cB (ix : Nat → Nat) (v : Nat → BitVec 8) (s : B8) : ∀ n, (gW ix v s n).length = s.length
 |0 => rfl
 |n + 1 => by rw [gW, List.length_set, cB ix v s n]
def aCC (s : B8) (n : Nat) : BitVec 8 := f9 (s.getD (4 * ((n / 4 + n % 4) % 4) + n % 4) 0)
def aFe (t : B8) (n : Nat) : BitVec 8 :=
 aF (t.getD (4 * (n / 4) + n % 4) 0) ^^^ aF (t.getD (4 * (n / 4) + (n % 4 + 1) % 4) 0) ^^^ t.getD (4 * (n / 4) + (n % 4 + 1) % 4) 0 ^^^ t.getD (4 * (n / 4) + (n % 4 + 2) % 4) 0 ^^^ t.getD (4 * (n / 4) + (n % 4 + 3) % 4) 0
def w7 (s : B8) : B8 := gW id (aCC s) (List.replicate 16 0) 16
def aAJ (t : B8) : B8 := gW id (aFe t) t 16
def nL (ks : List B8) (b : B8) : Nat → B8
 |0 => eM b (ks.getD 0 [])
 |n + 1 => eM (if n + 1 < 14 then aAJ (w7 (nL ks b n)) else w7 (nL ks b n)) (ks.getD (n + 1) [])
theorem g8 (s : B8) : (w7 s).length = 16 := cB _ _ _ 16
theorem pK (s : B8) : (aAJ s).length = s.length := cB _ _ _ 16
section
variable (ks : List B8) (b : B8) (hb : b.length = 16)
include ks b hb
theorem aAL : ∀ n, (nL ks b n).length = 16
 |0 => by rw [nL, aJ, hb]
 |n + 1 => by
  rw [nL, aJ]
  split
  ·rw [pK, g8]
  ·rw [g8]
set_option maxHeartbeats 4000000 in
theorem aCK (hr : Rows 15 16 ks) : AC Tryz.prog 142 [.node (ks.map .u8s), .u8s b] 0 gB ⟨.u8s (nL ks b 14), [], []⟩ := by
 have h1 : ks.length = 15 := hr.1
 have hm : (ks.map D.u8s).length = 15 := by rw [List.length_map, h1]
 have hx := aJ b (ks.getD 0 [])
 rw [hb] at hx
 refine cN tab mix Tryz.func142 rfl (by kernel_rfl) (by kernel_rfl) (by kernel_rfl) ⟨[22], []⟩ ?_
 refine EffG.mk (And.intro hr.ty ?_)
 repeat first | (rw [bL (l := ks)]; rotate_left; omega) | refine st1 ?_
 refine bF (wU b (ks.getD 0 []) hb (hr.get (by omega))) [] rfl rfl trivial rfl rfl ?_
 refine stN ?_
 refine aX Nat (fun k => [(2, .ptr 0 []), (4, .ptr 2 []), (5, .ptr 3 []), (6, .i64 (k + 1 : Nat))])
  (fun k => [(0, some ⟨t15, .node (ks.map .u8s), true⟩), (2, some ⟨t16, .u8s (List.replicate 16 0), true⟩), (3, some ⟨t16, .u8s (nL ks b k), true⟩), (gid 0, some ⟨jG, .u8s boxL, false⟩)]) 4 (fun k => k ≤ 14) (fun k => 14 - k) 0 [0, 1, 2, 3] (Nat.zero_le _) ?_ ?_
 ·exact aN rfl ⟨rfl, rfl, rfl, rfl, trivial⟩ ⟨⟨_, rfl, rfl, (aD _ _).symm, id⟩, ⟨_, rfl, rfl, rfl, id⟩, ⟨_, rfl, rfl, rfl, id⟩, ⟨_, rfl, rfl, rfl, id⟩, trivial⟩ rfl
 intro k hk14
 have hl := aAL ks b hb k
 refine stN ?_
 refine Br.split (fun h => ?_) (fun h => ?_)
 ·have hk14 : k < 14 := by have := of_decide_eq_true h; omega
  have hc : nL ks b (k + 1) = eM (if k + 1 < 14 then aAJ (w7 (nL ks b k)) else w7 (nL ks b k)) (ks.getD (k + 1) []) := rfl
  generalize nL ks b k = s at hl hc ⊢
  refine stN ?_
  refine aX Nat (fun c => [(2, .ptr 0 []), (4, .ptr 2 []), (5, .ptr 3 []), (6, .i64 (k + 1 : Nat)), (7, .ptr 4 []), (8, .i64 c)])
   (fun c => [(0, some ⟨t15, .node (ks.map .u8s), true⟩), (2, some ⟨t16, .u8s (List.replicate 16 0), true⟩), (3, some ⟨t16, .u8s s, true⟩), (4, some ⟨t16, .u8s (gW id (aCC s) (List.replicate 16 0) (4 * c)), true⟩), (gid 0, some ⟨jG, .u8s boxL, false⟩)]) 5 (fun c => c ≤ 4) (fun c => 4 - c) 0 [0, 1, 2, 3, 4] (Nat.zero_le _) ?_ ?_
  ·exact aN rfl ⟨rfl, rfl, rfl, rfl, rfl, rfl, trivial⟩ ⟨⟨_, rfl, rfl, (aD _ _).symm, id⟩, ⟨_, rfl, rfl, rfl, id⟩, ⟨_, rfl, rfl, rfl, id⟩, ⟨_, rfl, rfl, rfl, id⟩, ⟨_, rfl, rfl, rfl, id⟩, trivial⟩ rfl
  intro c hc4
  refine stN ?_
  refine Br.split (fun h => ?_) (fun h => ?_)
  ·have hc4 : c < 4 := by have := of_decide_eq_true h; omega
   refine stN ?_
   refine aX Nat (fun r => [(2, .ptr 0 []), (4, .ptr 2 []), (5, .ptr 3 []), (6, .i64 (k + 1 : Nat)), (7, .ptr 4 []), (8, .i64 c), (9, .i64 r)])
    (fun r => [(0, some ⟨t15, .node (ks.map .u8s), true⟩), (2, some ⟨t16, .u8s (List.replicate 16 0), true⟩), (3, some ⟨t16, .u8s s, true⟩), (4, some ⟨t16, .u8s (gW id (aCC s) (List.replicate 16 0) (4 * c + r)), true⟩), (gid 0, some ⟨jG, .u8s boxL, false⟩)]) 5 (fun r => r ≤ 4) (fun r => 4 - r) 0 [0, 1, 2, 3, 4] (Nat.zero_le _) ?_ ?_
   ·exact aN rfl ⟨rfl, rfl, rfl, rfl, rfl, rfl, rfl, trivial⟩ ⟨⟨_, rfl, rfl, (aD _ _).symm, id⟩, ⟨_, rfl, rfl, rfl, id⟩, ⟨_, rfl, rfl, rfl, id⟩, ⟨_, rfl, rfl, rfl, id⟩, ⟨_, rfl, rfl, rfl, id⟩, trivial⟩ rfl
   intro r hr4
   have hq := cB id (aCC s) (List.replicate 16 0) (4 * c + r)
   rw [List.length_replicate] at hq
   refine stN ?_
   refine Br.split (fun h => ?_) (fun h => ?_)
   ·have hr4 : r < 4 := by have := of_decide_eq_true h; omega
    have e1 : 4 * (c : Int) + (r : Int) = ((4 * c + r : Nat) : Int) := by omega
    have e2 : Int.tmod ((c : Int) + (r : Int)) 4 = (((c + r) % 4 : Nat) : Int) := Int.ofNat_tmod (c + r) 4
    have e3 : 4 * (((c + r) % 4 : Nat) : Int) + (r : Int) = ((4 * ((c + r) % 4) + r : Nat) : Int) := by omega
    repeat first | rw [e1] | rw [e2] | rw [e3] | rw [Int.toNat_natCast] | refine EffG.mk (And.intro (gx1 _) ?_) | refine EffG.mk (And.intro (gx2 _) ?_) | refine st1 ?_
    refine bQ (r + 1) [0, 1, 2, 3, 4] ?_ ?_ ?_
    ·omega
    ·omega
    ·refine aN rfl ⟨rfl, rfl, rfl, rfl, rfl, rfl, rfl, trivial⟩ ⟨⟨_, rfl, rfl, (aD _ _).symm, id⟩, ⟨_, rfl, rfl, rfl, id⟩, ⟨_, rfl, rfl, rfl, id⟩, ⟨_, rfl, rfl, congrArg D.u8s ?_, id⟩, ⟨_, rfl, rfl, rfl, id⟩, trivial⟩ rfl
     rw [← Nat.add_assoc, gW, aCC, show (4 * c + r) / 4 = c by omega, show (4 * c + r) % 4 = r by omega]
     rfl
   ·have hr4 : r = 4 := by have := of_decide_eq_false h; omega
    subst hr4
    refine stN ?_
    refine bQ (c + 1) [0, 1, 2, 3, 4] ?_ ?_ ?_
    ·omega
    ·omega
    ·exact aN rfl ⟨rfl, rfl, rfl, rfl, rfl, rfl, trivial⟩ ⟨⟨_, rfl, rfl, (aD _ _).symm, id⟩, ⟨_, rfl, rfl, rfl, id⟩, ⟨_, rfl, rfl, rfl, id⟩, ⟨_, rfl, rfl, rfl, id⟩, ⟨_, rfl, rfl, rfl, id⟩, trivial⟩ rfl
  ·have hc4 : c = 4 := by have := of_decide_eq_false h; omega
   subst hc4
   have ht := g8 s
   have hu := pK (w7 s)
   rw [ht] at hu
   have e0 : gW id (aCC s) (List.replicate 16 0) (4 * 4) = w7 s := rfl
   rw [e0]
   generalize w7 s = t at ht hc hu ⊢
   refine stN ?_
   refine u2 Unit (fun _ => [(2, .ptr 0 []), (4, .ptr 2 []), (5, .ptr 3 []), (6, .i64 (k + 1 : Nat))])
    (fun _ => [(0, some ⟨t15, .node (ks.map .u8s), true⟩), (2, some ⟨t16, .u8s (List.replicate 16 0), true⟩), (3, some ⟨t16, .u8s (if k + 1 < 14 then aAJ t else t), true⟩), (gid 0, some ⟨jG, .u8s boxL, false⟩)]) 4 (fun _ => True) ?_ ?_
   ·refine stN ?_
    refine aX Nat (fun c => [(2, .ptr 0 []), (4, .ptr 2 []), (5, .ptr 3 []), (6, .i64 (k + 1 : Nat)), (7, .ptr 4 []), (10, .i64 c)])
     (fun c => [(0, some ⟨t15, .node (ks.map .u8s), true⟩), (2, some ⟨t16, .u8s (List.replicate 16 0), true⟩), (3, some ⟨t16, .u8s (gW id (aFe t) t (4 * c)), true⟩), (4, some ⟨t16, .u8s t, true⟩), (gid 0, some ⟨jG, .u8s boxL, false⟩)]) 5 (fun c => c ≤ 4 ∧ (¬ k + 1 < 14 → c = 0)) (fun c => 4 - c) 0 [0, 1, 2, 3, 4] ⟨Nat.zero_le _, fun _ => rfl⟩ ?_ ?_
    ·exact aN rfl ⟨rfl, rfl, rfl, rfl, rfl, rfl, trivial⟩ ⟨⟨_, rfl, rfl, (aD _ _).symm, id⟩, ⟨_, rfl, rfl, rfl, id⟩, ⟨_, rfl, rfl, rfl, id⟩, ⟨_, rfl, rfl, rfl, id⟩, ⟨_, rfl, rfl, rfl, id⟩, trivial⟩ rfl
    intro c ⟨hc4, hc0⟩
    refine stN ?_
    refine Br.split (fun h => ?_) (fun h => ?_)
    ·have hc4 : c < 4 := by have := of_decide_eq_true h; omega
     repeat first | refine st1 ?_ | refine Br.yes rfl ?_
     refine Br.split (fun h => ?_) (fun h => ?_)
     ·have hk : k + 1 < 14 := by have := of_decide_eq_true h; omega
      refine stN ?_
      refine aX Nat (fun r => [(2, .ptr 0 []), (4, .ptr 2 []), (5, .ptr 3 []), (6, .i64 (k + 1 : Nat)), (7, .ptr 4 []), (10, .i64 c), (11, .i64 r)])
       (fun r => [(0, some ⟨t15, .node (ks.map .u8s), true⟩), (2, some ⟨t16, .u8s (List.replicate 16 0), true⟩), (3, some ⟨t16, .u8s (gW id (aFe t) t (4 * c + r)), true⟩), (4, some ⟨t16, .u8s t, true⟩), (gid 0, some ⟨jG, .u8s boxL, false⟩)]) 5 (fun r => r ≤ 4) (fun r => 4 - r) 0 [0, 1, 2, 3, 4] (Nat.zero_le _) ?_ ?_
      ·exact aN rfl ⟨rfl, rfl, rfl, rfl, rfl, rfl, rfl, trivial⟩ ⟨⟨_, rfl, rfl, (aD _ _).symm, id⟩, ⟨_, rfl, rfl, rfl, id⟩, ⟨_, rfl, rfl, rfl, id⟩, ⟨_, rfl, rfl, rfl, id⟩, ⟨_, rfl, rfl, rfl, id⟩, trivial⟩ rfl
      intro r hr4
      have hq := cB id (aFe t) t (4 * c + r)
      rw [ht] at hq
      refine stN ?_
      refine Br.split (fun h => ?_) (fun h => ?_)
      ·have hr4 : r < 4 := by have := of_decide_eq_true h; omega
       have e1 : 4 * (c : Int) + (r : Int) = ((4 * c + r : Nat) : Int) := by omega
       have m1 : Int.tmod ((r : Int) + 1) 4 = (((r + 1) % 4 : Nat) : Int) := Int.ofNat_tmod (r + 1) 4
       have m2 : Int.tmod ((r : Int) + 2) 4 = (((r + 2) % 4 : Nat) : Int) := Int.ofNat_tmod (r + 2) 4
       have m3 : Int.tmod ((r : Int) + 3) 4 = (((r + 3) % 4 : Nat) : Int) := Int.ofNat_tmod (r + 3) 4
       have n1 : 4 * (c : Int) + (((r + 1) % 4 : Nat) : Int) = ((4 * c + (r + 1) % 4 : Nat) : Int) := by omega
       have n2 : 4 * (c : Int) + (((r + 2) % 4 : Nat) : Int) = ((4 * c + (r + 2) % 4 : Nat) : Int) := by omega
       have n3 : 4 * (c : Int) + (((r + 3) % 4 : Nat) : Int) = ((4 * c + (r + 3) % 4 : Nat) : Int) := by omega
       repeat first | rw [e1] | rw [m1] | rw [m2] | rw [m3] | rw [n1] | rw [n2] | rw [n3] | rw [Int.toNat_natCast] | refine st1 ?_
       refine bF (kO _) [] rfl rfl trivial rfl rfl ?_
       refine stN ?_
       refine bF (kO _) [] rfl rfl trivial rfl rfl ?_
       refine stN ?_
       refine bQ (r + 1) [0, 1, 2, 3, 4] ?_ ?_ ?_
       ·omega
       ·omega
       ·refine aN rfl ⟨rfl, rfl, rfl, rfl, rfl, rfl, rfl, trivial⟩ ⟨⟨_, rfl, rfl, (aD _ _).symm, id⟩, ⟨_, rfl, rfl, rfl, id⟩, ⟨_, rfl, rfl, congrArg D.u8s ?_, id⟩, ⟨_, rfl, rfl, rfl, id⟩, ⟨_, rfl, rfl, rfl, id⟩, trivial⟩ rfl
        rw [← Nat.add_assoc, gW, aFe, show (4 * c + r) / 4 = c by omega, show (4 * c + r) % 4 = r by omega]
        rfl
      ·have hr4 : r = 4 := by have := of_decide_eq_false h; omega
       subst hr4
       refine stN ?_
       refine bQ (c + 1) [0, 1, 2, 3, 4] ?_ ?_ ?_
       ·exact ⟨by omega, fun h => absurd hk h⟩
       ·show 4 - (c + 1) < 4 - c
        omega
       ·exact aN rfl ⟨rfl, rfl, rfl, rfl, rfl, rfl, trivial⟩ ⟨⟨_, rfl, rfl, (aD _ _).symm, id⟩, ⟨_, rfl, rfl, rfl, id⟩, ⟨_, rfl, rfl, rfl, id⟩, ⟨_, rfl, rfl, rfl, id⟩, ⟨_, rfl, rfl, rfl, id⟩, trivial⟩ rfl
     ·have hk : ¬ k + 1 < 14 := by have := of_decide_eq_false h; omega
      have hc0 := hc0 hk
      subst hc0
      refine iR () [0, 1, 2, 3] trivial ?_
      exact aN rfl ⟨rfl, rfl, rfl, rfl, trivial⟩ ⟨⟨_, rfl, rfl, (aD _ _).symm, id⟩, ⟨_, rfl, rfl, rfl, id⟩, ⟨_, rfl, rfl, congrArg D.u8s (if_neg hk).symm, id⟩, ⟨_, rfl, rfl, rfl, id⟩, trivial⟩ rfl
    ·have hc4 : c = 4 := by have := of_decide_eq_false h; omega
     subst hc4
     have hk : k + 1 < 14 := Decidable.byContradiction fun h => by have := hc0 h; omega
     repeat first | refine st1 ?_ | refine Br.no rfl ?_
     refine iR () [0, 1, 2, 3] trivial ?_
     exact aN rfl ⟨rfl, rfl, rfl, rfl, trivial⟩ ⟨⟨_, rfl, rfl, (aD _ _).symm, id⟩, ⟨_, rfl, rfl, rfl, id⟩, ⟨_, rfl, rfl, congrArg D.u8s (if_pos hk).symm, id⟩, ⟨_, rfl, rfl, rfl, id⟩, trivial⟩ rfl
   intro _ _
   have hz : (if k + 1 < 14 then aAJ t else t).length = 16 := by
    split
    ·exact hu
    ·exact ht
   generalize (if k + 1 < 14 then aAJ t else t) = z at hz hc ⊢
   have hx2 := aJ z (ks.getD (k + 1) [])
   rw [hz] at hx2
   repeat first | (rw [bL (l := ks)]; rotate_left; omega) | rw [Int.toNat_natCast (k + 1)] | refine st1 ?_
   refine bF (wU z (ks.getD (k + 1) []) hz (hr.get (by omega))) [] rfl rfl trivial rfl rfl ?_
   refine stN ?_
   refine bQ (k + 1) [0, 1, 2, 3] ?_ ?_ ?_
   ·omega
   ·omega
   ·exact aN rfl ⟨rfl, rfl, rfl, rfl, trivial⟩ ⟨⟨_, rfl, rfl, (aD _ _).symm, id⟩, ⟨_, rfl, rfl, rfl, id⟩, ⟨_, rfl, rfl, congrArg D.u8s hc.symm, id⟩, ⟨_, rfl, rfl, rfl, id⟩, trivial⟩ rfl
 ·have hk14 : k = 14 := by have := of_decide_eq_false h; omega
  subst hk14
  generalize nL ks b 14 = z at hl ⊢
  refine stN ?_
  refine gC [] rfl rfl ⟨⟨_, rfl, rfl, rfl, id⟩, trivial⟩ rfl
end
theorem w6 {ix : Nat → Nat} (v : Nat → BitVec 8) (s : B8) (N : Nat) (hix : ∀ i, i < N → ix i < s.length) (hinj : ∀ i, i < N → ∀ j, j < N → ix i = ix j → i = j) : ∀ n, n ≤ N → ∀ i, i < n → (gW ix v s n).getD (ix i) 0 = v i
 |0, _, i, hi => by omega
 |n + 1, hn, i, hi => by
  rw [gW, bW (by rw [cB]; exact hix n (by omega))]
  by_cases h : i = n
  ·subst h; rw [if_pos rfl]
  ·rw [if_neg (fun e => h (hinj i (by omega) n (by omega) e))]
   exact w6 v s N hix hinj n (by omega) i (by omega)
theorem aFU : ∀ i, i < 16 → 4 * ((i / 4 + i % 4) % 4) + i % 4 = sg i := by decide
theorem aJI (s : B8) : w7 s = wX s 16 := by
 refine aII (g8 s) (cO s 16) fun i hi => ?_
 have h := w6 (ix := id) (aCC s) (List.replicate 16 0) 16 (fun i hi => by rw [List.length_replicate]; exact hi) (fun i _ j _ h => h) 16 (Nat.le_refl _) i hi
 rw [aBd s 16 (Nat.le_refl _) i hi, ← aFU i hi]
 exact h
def rcF (f : BitVec 8 → BitVec 8) (a b c d : BitVec 8) : B8 :=
 [f a ^^^ f b ^^^ b ^^^ c ^^^ d, f b ^^^ f c ^^^ c ^^^ d ^^^ a, f c ^^^ f d ^^^ d ^^^ a ^^^ b, f d ^^^ f a ^^^ a ^^^ b ^^^ c]
theorem aEF (a0 a1 a2 a3 a4 a5 a6 a7 a8 a9 a10 a11 a12 a13 a14 a15 : BitVec 8) : aAJ [a0, a1, a2, a3, a4, a5, a6, a7, a8, a9, a10, a11, a12, a13, a14, a15] =
  rcF aF a0 a1 a2 a3 ++ rcF aF a4 a5 a6 a7 ++ rcF aF a8 a9 a10 a11 ++ rcF aF a12 a13 a14 a15 := by
 kernel_rfl
theorem aH6 (f : BitVec 8 → BitVec 8) (hf : ∀ x y, f (x ^^^ y) = f x ^^^ f y) (a b c d : BitVec 8) : rcF f a b c d = mcF f a b c d := by
 refine aJg ?_ ?_ ?_ ?_ <;> rw [hf] <;> simp only [BitVec.xor_assoc, BitVec.xor_comm, cE, cI]
theorem aJP (s : B8) (hs : s.length = 16) : aAJ s = aGN s := by
 obtain ⟨a0, a1, a2, a3, a4, a5, a6, a7, a8, a9, a10, a11, a12, a13, a14, a15, rfl⟩ := aD1 s hs
 rw [nR, aEF]
 exact four (aH6 aF cJ _ _ _ _) (aH6 aF cJ _ _ _ _) (aH6 aF cJ _ _ _ _) (aH6 aF cJ _ _ _ _)
theorem xD (ks : List B8) (b : B8) : ∀ n, nL ks b n = fS ks b n
 |0 => rfl
 |n + 1 => by
  rw [nL, fS, xD ks b n, aJI, aJP _ (cO _ _)]

abbrev gBK : Mem := [(gid 0, some ⟨jG, .u8s boxL, false⟩), gK]
abbrev gRBK : Mem := [gR, (gid 0, some ⟨jG, .u8s boxL, false⟩), gK]


theorem aH9 (n : BitVec 16) : AC Tryz.prog 104 [.u16 n] 0 [] ⟨.slice 0 [] 0 2 none, [], [(.row .cell, .u8s (nbF (n.setWidth 64) 2))]⟩ := by
 refine acA tab mix Tryz.func104 {} ?_
 refine go ?_
 refine bG (aFt (n.setWidth 64) 2 (by decide)) [] ?_
 refine aI [0]
abbrev aCZ (c p : Nat) : D := .node [.i64 c, .i64 p]
theorem aIg (c p : Nat) (hc : 1 ≤ c) (hc2 : c ≤ 64) (hp : 1 ≤ p) (hp2 : p ≤ 2) : AC Tryz.prog 103 [aCZ c p] 0 [] ⟨.bool true, [], []⟩ := by
 have q0 : (!(D.node [.i64 c, .i64 p]).eqb (.node [.i64 0, .i64 0])) = true := by
  have : decide ((c : Int) = 0) = false := decide_eq_false (by omega)
  simp [D.eqb, D.eqbs, kJ, this]; omega
 have q1 : decide ((c : Int) ≥ 1) = true := decide_eq_true (by omega)
 have q2 : decide ((c : Int) ≤ 64) = true := decide_eq_true (by omega)
 have q3 : decide ((p : Int) ≥ 1) = true := decide_eq_true (by omega)
 have q4 : decide ((p : Int) ≤ 2) = true := decide_eq_true (by omega)
 refine acA tab mix Tryz.func103 {} ?_
 refine gob ?_
 rw [q0]
 refine gob ?_
 rw [q1]
 refine gob ?_
 rw [q4]
 refine aI []
theorem aCO (bs : B8) (o k n : Nat) (cap : Option Nat) (h : o + k ≤ bs.length) (hk : k ≤ n) (hn : n ≤ 65536) :
  AC Tryz.prog 77 [.slice 0 [] o k cap, .i64 n] 1 [(0, some ⟨.row .cell, .u8s bs, false⟩)] ⟨.tup [.slice 1 [] 0 n none, .i64 0], [], [(.row .cell, .u8s ((bs.drop o).take k ++ List.replicate (n - k) 0))]⟩ := by
 refine acA tab mix Tryz.func77 {} ?_
 refine gob ?_
 have q1 : Nat.min k n = k := Nat.min_eq_left hk
 have e : List.take 0 (List.replicate n (0 : BitVec 8)) ++ List.take (Nat.min k n) (List.drop o bs) ++ List.drop (0 + Nat.min k n) (List.replicate n 0) = (bs.drop o).take k ++ List.replicate (n - k) 0 := by
  rw [q1, Nat.zero_add, List.drop_replicate]; rfl
 refine aI [0, 1] (h3 := ?_)
 (repeat' (first | exact trivial | refine And.intro ⟨_, rfl, rfl, ?_, id⟩ ?_ | refine And.intro ⟨_, rfl, rfl, ?_, fun _ => rfl⟩ ?_)) <;> first | rfl | exact congrArg D.u8s e
theorem aEi (a b c d : B8) (ha : a.length = 9) (hb : b.length = 1) (hc : c.length = 2) (hd : d.length = 1) (ca cb cd : Option Nat) :
  AC Tryz.prog 92 [.slice 0 [] 0 4 (some 4)] 5 [(0, some ⟨.row .cell, .node [.slice 1 [] 0 9 ca, .slice 2 [] 0 1 cb, .slice 3 [] 0 2 none, .slice 4 [] 0 1 cd], true⟩),
   (1, some ⟨.row .cell, .u8s a, false⟩), (2, some ⟨.row .cell, .u8s b, false⟩), (3, some ⟨.row .cell, .u8s c, false⟩), (4, some ⟨.row .cell, .u8s d, false⟩)]
   ⟨.slice 5 [] 0 13 none, [], [(.row .cell, .u8s (a ++ b ++ c ++ d))]⟩ := by
 refine acA tab mix Tryz.func92 ⟨[], [3, 11]⟩ ?_
 refine go ?_
 refine oI 5 ?_
 refine gob ?_
 refine bG (tD (0 + (9 : Int) + 1 + 2 + 1) (by omega) (by omega)) [] ?_
 refine oI 5 ?_
 refine gob ?_
 refine ⟨0, ?_⟩
 refine gob ?_
 refine ⟨0, ?_⟩
 refine gob ?_
 refine ⟨0, ?_⟩
 refine gob ?_
 refine ⟨0, ?_⟩
 refine gob ?_
 refine aI [0, 1, 2, 3, 4, 9] (h3 := ?_)
 (repeat' (first | exact trivial | refine And.intro ⟨_, rfl, rfl, ?_, id⟩ ?_ | refine And.intro ⟨_, rfl, rfl, ?_, fun _ => rfl⟩ ?_)) <;> first | rfl | skip
 have t1 : List.take 9 a = a := List.take_of_length_le (by omega)
 have t2 : List.take 1 b = b := List.take_of_length_le (by omega)
 have t3 : List.take 2 c = c := List.take_of_length_le (by omega)
 have t4 : List.take 1 d = d := List.take_of_length_le (by omega)
 have k2 : List.take 10 (a ++ b) = a ++ b := List.take_of_length_le (by simp only [List.length_append]; omega)
 have k3 : List.take 12 (a ++ b ++ c) = a ++ b ++ c := List.take_of_length_le (by simp only [List.length_append]; omega)
 exact congrArg D.u8s (show List.take 12 (List.take 10 (List.take 9 (List.take 9 a) ++ List.take 1 b) ++ List.take 2 c) ++ List.take 1 d = a ++ b ++ c ++ d by rw [t1, t1, t2, k2, t3, k3, t4])
theorem aDR (c p : Nat) (n : BitVec 32) (hc : 1 ≤ c) (hc2 : c ≤ 64) (hp : 1 ≤ p) (hp2 : p ≤ 2) (hn : n.toNat ≤ 65535) : AC Tryz.prog 76 [aCZ c p, .u32 n] 0 [] ⟨.i64 ((8 + (n.toNat : Int) * p) * 512), [], []⟩ := by
 have hm := aIg c p hc hc2 hp hp2
 have hx : (n.toNat : Int) * p ≤ 131070 := by
  have := Nat.mul_le_mul hn hp2
  rw [← Int.natCast_mul]
  omega
 have hx0 : 0 ≤ (n.toNat : Int) * p := by rw [← Int.natCast_mul]; omega
 refine acA tab mix Tryz.func76 {} ?_
 refine gob ?_
 refine aA hm [] ?_
 refine brN ?_ (decide_eq_false (show ¬ 65535 < n.toNat by omega))
 refine gob ?_
 refine aI []
def vE (c p : Nat) : B8 := [82, 69, 76, 73, 81, 85, 65, 82, 89] ++ [1] ++ nbF ((BitVec.ofInt 16 c).setWidth 64) 2 ++ [BitVec.ofInt 8 p]
theorem i0 (c p : Nat) : (vE c p).length = 13 := by simp [vE, aZ]
section
variable (c p : Nat) (hc : 1 ≤ c) (hc2 : c ≤ 64) (hp : 1 ≤ p) (hp2 : p ≤ 2)
include c p hc hc2 hp hp2
theorem aIx : AC Tryz.prog 70 [aCZ c p] 0 [] ⟨.tup [.slice 0 [] 0 512 none, .i64 0], [], [(.row .cell, .u8s (vE c p ++ List.replicate (512 - 13) 0))]⟩ := by
 have hm := aIg c p hc hc2 hp hp2
 have h1 := aH9 (BitVec.ofInt 16 c)
 have hl := aZ ((BitVec.ofInt 16 c).setWidth 64) 2
 have h2 := aEi [82, 69, 76, 73, 81, 85, 65, 82, 89] [1] (nbF ((BitVec.ofInt 16 c).setWidth 64) 2) [BitVec.ofInt 8 p] rfl rfl hl rfl (some 9) (some 1) (some 1)
 rw [show [82, 69, 76, 73, 81, 85, 65, 82, 89] ++ [1] ++ nbF ((BitVec.ofInt 16 c).setWidth 64) 2 ++ [BitVec.ofInt 8 p] = vE c p from rfl] at h2
 have h3 := aCO (vE c p) 0 13 512 none (by rw [i0]; decide) (by decide) (by decide)
 rw [List.drop_zero, List.take_of_length_le (by rw [i0]; decide)] at h3
 generalize vE c p = Y at h2 h3 ⊢
 generalize nbF ((BitVec.ofInt 16 c).setWidth 64) 2 = Z at h1 h2
 refine acA tab mix Tryz.func70 {} ?_
 refine gob ?_
 refine aA hm [] ?_
 refine aA h1 [] ?_
 refine aA h2 [5, 1, 2, 3, 4] ?_
 refine aA h3 [6] ?_
 refine aI [7]
theorem aFG : AC Tryz.prog 31 [aCZ c p] 0 [gR] ⟨.u8s (dI (vE c p ++ List.replicate (512 - 13) 0)), [], []⟩ := by
 have h1 := aIx c p hc hc2 hp hp2
 have hl : (vE c p ++ List.replicate (512 - 13) 0).length = 512 := by simp [i0]
 generalize vE c p ++ List.replicate (512 - 13) 0 = Y at h1 hl ⊢
 have h2 := of1_ac Y 0 512 none (by omega) (by decide) (by decide)
 rw [List.drop_zero, List.take_of_length_le (by omega)] at h2
 have hy := bI Y
 generalize dI Y = z at h2 hy ⊢
 refine acA tab mix Tryz.func31 {} ?_
 refine gob ?_
 refine aA h1 [] ?_
 refine aA h2 [3, 2] ?_
 refine aI []
end
def twI (t : B8) : Nat → B8 × BitVec 8
 |0 => (t, 0)
 |n + 1 => ((twI t n).1.set n ((twI t n).1.getD n 0 <<< 1 ||| (twI t n).2), (twI t n).1.getD n 0 >>> 7)
def twF (t : B8) : B8 := if (twI t 16).2 = 0 then (twI t 16).1 else (twI t 16).1.set 0 ((twI t 16).1.getD 0 0 ^^^ 135)
theorem kP (t : B8) : ∀ n, (twI t n).1.length = t.length
 |0 => rfl
 |n + 1 => by rw [twI, List.length_set, kP t n]
theorem fV (t : B8) : (twF t).length = t.length := by
 unfold twF
 split
 ·exact kP t 16
 ·rw [List.length_set, kP t 16]
theorem vD (t : B8) (ht : t.length = 16) : AC Tryz.prog 114 [.u8s t] 0 [] ⟨.u8s (twF t), [], []⟩ := by
 refine cN tab mix Tryz.func114 rfl (by kernel_rfl) (by kernel_rfl) (by kernel_rfl) ⟨[9], []⟩ ?_
 refine stN ?_
 refine aX Nat (fun n => [(1, .ptr 0 []), (2, .ptr 1 []), (3, .u8 (twI t n).2), (5, .i64 n)]) (fun n => [(0, some ⟨t16, .u8s (twI t n).1, true⟩), (1, some ⟨t16, .u8s (List.replicate 16 0), true⟩)]) 2
  (fun n => n ≤ 16) (fun n => 16 - n) 0 [0, 1] (Nat.zero_le _) ?_ ?_
 ·exact aN rfl ⟨rfl, rfl, rfl, rfl, trivial⟩ ⟨⟨_, rfl, rfl, rfl, id⟩, ⟨_, rfl, rfl, rfl, id⟩, trivial⟩ rfl
 intro n hn
 have hl := kP t n
 rw [ht] at hl
 refine stN ?_
 refine Br.split (fun h => ?_) (fun h => ?_)
 ·have hn : n < 16 := by have := of_decide_eq_true h; omega
  refine stN ?_
  refine bQ (n + 1) [0, 1] ?_ ?_ ?_
  ·omega
  ·omega
  ·exact aN rfl ⟨rfl, rfl, rfl, rfl, trivial⟩ ⟨⟨_, rfl, rfl, rfl, id⟩, ⟨_, rfl, rfl, rfl, id⟩, trivial⟩ rfl
 ·have hn : n = 16 := by have := of_decide_eq_false h; omega
  subst hn
  have hF : twF t = if (twI t 16).2 = 0 then (twI t 16).1 else (twI t 16).1.set 0 ((twI t 16).1.getD 0 0 ^^^ 135) := rfl
  have hFl := fV t
  rw [ht] at hFl
  generalize twF t = x at hF hFl ⊢
  generalize (twI t 16).1 = a at hF hl ⊢
  generalize (twI t 16).2 = c at hF ⊢
  refine u2 Unit (fun _ => [(1, .ptr 0 []), (2, .ptr 1 [])]) (fun _ => [(0, some ⟨t16, .u8s x, true⟩), (1, some ⟨t16, .u8s (List.replicate 16 0), true⟩)]) 2 (fun _ => True) ?_ ?_
  ·refine stN ?_
   refine Br.split (fun h => ?_) (fun h => ?_)
   ·have h : ¬ c = 0 := by simpa using h
    rw [if_neg h] at hF
    refine stN ?_
    refine iR () [0, 1] trivial (aN rfl ⟨rfl, rfl, trivial⟩ ⟨⟨_, rfl, rfl, congrArg D.u8s hF.symm, id⟩, ⟨_, rfl, rfl, rfl, id⟩, trivial⟩ rfl)
   ·have h : c = 0 := by simpa using h
    rw [if_pos h] at hF
    refine iR () [0, 1] trivial (aN rfl ⟨rfl, rfl, trivial⟩ ⟨⟨_, rfl, rfl, congrArg D.u8s hF.symm, id⟩, ⟨_, rfl, rfl, rfl, id⟩, trivial⟩ rfl)
  intro _ _
  refine stN ?_
  refine gC [] rfl rfl trivial rfl
theorem wT (s k : B8) (hs : s.length = 16) (hk : k.length = 16) : AC Tryz.prog 113 [.u8s s, .u8s k] 0 [] ⟨.u8s (eM s k), [], []⟩ := by
 refine cN tab mix Tryz.func113 rfl (by kernel_rfl) (by kernel_rfl) (by kernel_rfl) {} ?_
 refine stN ?_
 refine aX Nat (fun n => [(2, .ptr 0 []), (4, .ptr 2 []), (7, .u8s k), (8, .i64 n)]) (fun n => [(0, some ⟨t16, .u8s (aEq s k n), true⟩), (2, some ⟨t16, .u8s (List.replicate 16 0), true⟩)]) 3
  (fun n => n ≤ 16) (fun n => 16 - n) 0 [0, 1, 2] (Nat.zero_le _) ?_ ?_
 ·exact aN rfl ⟨rfl, rfl, rfl, rfl, trivial⟩ ⟨⟨_, rfl, rfl, rfl, id⟩, ⟨_, rfl, rfl, rfl, id⟩, trivial⟩ rfl
 intro n hn
 have hl := dX s k n
 rw [hs] at hl
 refine stN ?_
 refine Br.split (fun h => ?_) (fun h => ?_)
 ·have hn : n < 16 := by have := of_decide_eq_true h; omega
  refine stN ?_
  refine bQ (n + 1) [0, 1, 2] ?_ ?_ ?_
  ·omega
  ·omega
  ·exact aN rfl ⟨rfl, rfl, rfl, rfl, trivial⟩ ⟨⟨_, rfl, rfl, rfl, id⟩, ⟨_, rfl, rfl, rfl, id⟩, trivial⟩ rfl
 ·have hn : n = 16 := by have := of_decide_eq_false h; omega
  subst hn
  refine stN ?_
  refine gC [] rfl rfl trivial rfl
def aGa (s : BitVec 64) : Nat → B8 × BitVec 64
 |0 => (List.replicate 16 0, s)
 |n + 1 => ((aGa s n).1.set n ((aGa s n).2.setWidth 8), (aGa s n).2 >>> 8)
def aB7 (s : BitVec 64) : B8 := (aGa s 8).1
theorem mM (s : BitVec 64) : ∀ n, (aGa s n).1.length = 16
 |0 => rfl
 |n + 1 => by rw [aGa, List.length_set, mM s n]
abbrev tX : Ty := .st [.cell, .cell]
theorem aDc (k2 : List B8) (s : BitVec 64) (h2 : Rows 15 16 k2) :
  AC Tryz.prog 112 [.ptr 0 [], .u64 s] 3 [(0, some ⟨tX, .node [.ptr 1 [], .ptr 2 []], true⟩), (2, some ⟨tC, cH k2, true⟩)] ⟨.u8s (fS k2 (aB7 s) 14), [], []⟩ := by
 refine cN tab mix Tryz.func112 rfl (by kernel_rfl) (by kernel_rfl) (by kernel_rfl) {} ?_
 refine stN ?_
 refine aX Nat (fun n => [(0, .ptr 0 []), (1, .u64 (aGa s n).2), (4, .ptr 3 []), (5, .ptr 4 []), (7, .i64 n)])
  (fun n => [(0, some ⟨tX, .node [.ptr 1 [], .ptr 2 []], true⟩), (2, some ⟨tC, cH k2, true⟩), (3, some ⟨t16, .u8s (List.replicate 16 0), true⟩), (4, some ⟨t16, .u8s (aGa s n).1, true⟩)]) 5
  (fun n => n ≤ 8) (fun n => 8 - n) 0 [0, 1, 2, 3, 4] (Nat.zero_le _) ?_ ?_
 ·exact aN rfl ⟨rfl, rfl, rfl, rfl, rfl, trivial⟩ ⟨⟨_, rfl, rfl, rfl, id⟩, ⟨_, rfl, rfl, (aG _ k2).symm, id⟩, ⟨_, rfl, rfl, rfl, id⟩, ⟨_, rfl, rfl, rfl, id⟩, trivial⟩ rfl
 intro n hn
 have hl := mM s n
 refine stN ?_
 refine Br.split (fun h => ?_) (fun h => ?_)
 ·have hn : n < 8 := by have := of_decide_eq_true h; omega
  refine stN ?_
  refine bQ (n + 1) [0, 1, 2, 3, 4] ?_ ?_ ?_
  ·omega
  ·omega
  ·exact aN rfl ⟨rfl, rfl, rfl, rfl, rfl, trivial⟩ ⟨⟨_, rfl, rfl, rfl, id⟩, ⟨_, rfl, rfl, (aG _ k2).symm, id⟩, ⟨_, rfl, rfl, rfl, id⟩, ⟨_, rfl, rfl, rfl, id⟩, trivial⟩ rfl
 ·have hn : n = 8 := by have := of_decide_eq_false h; omega
  subst hn
  have he := wM k2 (aB7 s) hl h2.1 h2.2
  have hel := bN k2 (aB7 s) hl 14
  have hf : (aGa s 8).1 = aB7 s := rfl
  rw [hf] at hl ⊢
  generalize fS k2 (aB7 s) 14 = x at he hel ⊢
  generalize aB7 s = y at he hl ⊢
  refine stN ?_
  refine bF he [2] rfl rfl ⟨⟨_, rfl, rfl, (aG _ k2).symm, id⟩, trivial⟩ rfl rfl ?_
  refine stN ?_
  refine gC [0, 1, 2] rfl rfl ⟨⟨_, rfl, rfl, rfl, id⟩, ⟨_, rfl, rfl, (aG _ k2).symm, id⟩, trivial⟩ rfl
def wR (f : B8 → B8) (t p : B8) : B8 := eM (f (eM p t)) t
def lQ (f : B8 → B8) (bs : B8) (o : Nat) (out t : B8) : Nat → B8 × B8
 |0 => (out, t)
 |i + 1 => ((lQ f bs o out t i).1 ++ wR f (lQ f bs o out t i).2 ((bs.drop (o + 16 * i)).take 16), twF (lQ f bs o out t i).2)
def ovI (f : B8 → B8) (k2 : List B8) (bs : B8) (o : Nat) (s : BitVec 64) : Nat → B8
 |0 => []
 |j + 1 => (lQ f bs (o + 512 * j) (ovI f k2 bs o s j) (fS k2 (aB7 (s + BitVec.ofNat 64 j)) 14) 32).1
theorem e5 {f : B8 → B8} (hf : ∀ p, p.length = 16 → (f p).length = 16) {t p : B8} (hp : p.length = 16) : (wR f t p).length = 16 := by
 rw [wR, aJ, hf _ (by rw [aJ, hp])]
theorem i2 {f : B8 → B8} (hf : ∀ p, p.length = 16 → (f p).length = 16) {bs : B8} {o : Nat} {out t : B8} (ht : t.length = 16) (ho : o + 512 ≤ bs.length) :
  ∀ i, i ≤ 32 → (lQ f bs o out t i).1.length = out.length + 16 * i ∧ (lQ f bs o out t i).2.length = 16
 |0, _ => ⟨rfl, ht⟩
 |i + 1, hi => by
  obtain ⟨h1, h2⟩ := i2 (out := out) hf ht ho i (by omega)
  rw [lQ]
  refine ⟨?_, ?_⟩
  ·rw [List.length_append, h1, e5 hf (by rw [List.length_take, List.length_drop]; omega)]; omega
  ·show (twF _).length = 16
   rw [fV, h2]
theorem mN (s : BitVec 64) : (aB7 s).length = 16 := mM s 8
theorem eU {f : B8 → B8} (hf : ∀ p, p.length = 16 → (f p).length = 16) (k2 : List B8) {bs : B8} {o : Nat} (s : BitVec 64) {m : Nat} (hm : o + 512 * m ≤ bs.length) :
  ∀ j, j ≤ m → (ovI f k2 bs o s j).length = 512 * j
 |0, _ => rfl
 |j + 1, hj => by
  rw [ovI, (i2 hf (bN k2 _ (mN _) 14) (by omega) 32 (Nat.le_refl _)).1, eU hf k2 s hm j (by omega)]; omega
def capI : Option Nat → Nat → Option Nat
 |c, 0 => c
 |c, j + 1 => (capI c j).map (· - 512)
theorem cF {b a a' l l' : Nat} {c c' : Option Nat} (h1 : a = a') (h2 : l = l') (h3 : c = c') : some (D.slice b [] a l c) = some (D.slice b [] a' l' c') := by rw [h1, h2, h3]
set_option maxHeartbeats 4000000 in
theorem aFy (T : Ty) (hT : T = .row .cell ∨ ∃ n, T = .arr n .cell) (g : Nat) (f : B8 → B8) (k1 k2 : List B8) (h2 : Rows 15 16 k2) (hg : ∀ p, p.length = 16 → AC Tryz.prog g [.ptr 0 [], .u8s p] 1 [(0, some ⟨tC, cH k1, true⟩)] ⟨.u8s (f p), [], []⟩) (hf : ∀ p, p.length = 16 → (f p).length = 16) (bs : B8) (o m : Nat) (cap : Option Nat) (s : BitVec 64) (hm : o + 512 * m ≤ bs.length) (hm2 : m ≤ 128) (hbl : bs.length < 9223372036854775808) :
  AC Tryz.prog 74 [.ptr 0 [], .u64 s, .slice 3 [] o (512 * m) cap, .fn g [.ptr 1 []] []] 4
   [(0, some ⟨tX, .node [.ptr 1 [], .ptr 2 []], true⟩), (1, some ⟨tC, cH k1, true⟩), (2, some ⟨tC, cH k2, true⟩), (3, some ⟨T, .u8s bs, false⟩)]
   ⟨.tup [.slice 4 [] 0 (512 * m) none, .i64 0], [], [(.row .cell, .u8s (ovI f k2 bs o s m))]⟩ := by
 have hrem : Int.tmod ((512 * m : Nat) : Int) 512 = 0 := by
  rw [show Int.tmod ((512 * m : Nat) : Int) 512 = ((512 * m % 512 : Nat) : Int) from (Int.ofNat_tmod (512 * m) 512).symm]
  omega
 rcases hT with rfl | ⟨n, rfl⟩
 ·refine cN tab mix Tryz.func74 rfl (by kernel_rfl) (by kernel_rfl) (by kernel_rfl) {} ?_
  repeat first | rw [hrem] | refine st1 ?_
  refine Br.no rfl ?_
  refine stN ?_
  refine Br.no rfl ?_
  refine stN ?_
  refine Br.no rfl ?_
  refine stN ?_
  refine Br.no (decide_eq_false (by omega)) ?_
  refine stN ?_
  refine aX Nat (fun j => [(0, .ptr 0 []), (1, .u64 (s + BitVec.ofNat 64 j)), (2, .slice 3 [] (o + 512 * j) (512 * m - 512 * j) (capI cap j)), (3, .fn g [.ptr 1 []] []), (10, .slice 4 [] 0 (512 * j) none)])
   (fun j => [(0, some ⟨tX, .node [.ptr 1 [], .ptr 2 []], true⟩), (1, some ⟨tC, cH k1, true⟩), (2, some ⟨tC, cH k2, true⟩), (3, some ⟨.row .cell, .u8s bs, false⟩), (4, some ⟨.row .cell, .u8s (ovI f k2 bs o s j), true⟩)]) 5
   (fun j => j ≤ m) (fun j => m - j) 0 [0, 1, 2, 3, 4] (Nat.zero_le _) ?_ ?_
  ·refine aN rfl ⟨rfl, congrArg (fun x => some (D.u64 x)) (BitVec.add_zero s).symm, rfl, rfl, rfl, trivial⟩ ⟨⟨_, rfl, rfl, rfl, id⟩, ⟨_, rfl, rfl, (aG _ k1).symm, id⟩, ⟨_, rfl, rfl, (aG _ k2).symm, id⟩, ⟨_, rfl, rfl, rfl, id⟩, ⟨_, rfl, rfl, rfl, id⟩, trivial⟩ rfl
  intro j hj
  have hl := eU hf k2 s hm j hj
  refine stN ?_
  refine Br.split (fun h => ?_) (fun h => ?_)
  ·have hj : j < m := by have := of_decide_eq_true h; omega
   have hc : ovI f k2 bs o s (j + 1) = (lQ f bs (o + 512 * j) (ovI f k2 bs o s j) (fS k2 (aB7 (s + BitVec.ofNat 64 j)) 14) 32).1 := rfl
   generalize ovI f k2 bs o s j = out at hl hc ⊢
   have hfa := aDc k2 (s + BitVec.ofNat 64 j) h2
   have htl := bN k2 _ (mN (s + BitVec.ofNat 64 j)) 14
   generalize fS k2 (aB7 (s + BitVec.ofNat 64 j)) 14 = t at hc hfa htl
   refine stN ?_
   refine bF hfa [0, 1, 2] rfl rfl ⟨⟨_, rfl, rfl, rfl, id⟩, ⟨_, rfl, rfl, (aG _ k2).symm, id⟩, trivial⟩ rfl rfl ?_
   refine stN ?_
   have hu : s + BitVec.ofNat 64 j + BitVec.ofNat 64 (Int.toNat 1) = s + BitVec.ofNat 64 (j + 1) := by
    rw [BitVec.add_assoc, ← BitVec.ofNat_add]; rfl
   refine aX Nat (fun i => [(0, .ptr 0 []), (1, .u64 (s + BitVec.ofNat 64 (j + 1))), (2, .slice 3 [] (o + 512 * j) (512 * m - 512 * j) (capI cap j)), (3, .fn g [.ptr 1 []] []), (10, .slice 4 [] 0 (512 * j + 16 * i) none), (11, .ptr 5 []),
     (12, .slice 3 [] (o + 512 * j + 16 * i) (512 - 16 * i) (some (512 - 16 * i)))])
    (fun i => [(0, some ⟨tX, .node [.ptr 1 [], .ptr 2 []], true⟩), (1, some ⟨tC, cH k1, true⟩), (2, some ⟨tC, cH k2, true⟩), (3, some ⟨.row .cell, .u8s bs, false⟩), (4, some ⟨.row .cell, .u8s (lQ f bs (o + 512 * j) out t i).1, true⟩),
     (5, some ⟨t16, .u8s (lQ f bs (o + 512 * j) out t i).2, true⟩)]) 6 (fun i => i ≤ 32) (fun i => 32 - i) 0 [0, 1, 2, 3, 4, 5] (Nat.zero_le _) ?_ ?_
   ·refine aN rfl ⟨rfl, congrArg (fun x => some (D.u64 x)) hu, rfl, rfl, rfl, rfl, cF rfl rfl rfl, trivial⟩ ⟨⟨_, rfl, rfl, rfl, id⟩, ⟨_, rfl, rfl, (aG _ k1).symm, id⟩, ⟨_, rfl, rfl, (aG _ k2).symm, id⟩, ⟨_, rfl, rfl, rfl, id⟩, ⟨_, rfl, rfl, rfl, id⟩, ⟨_, rfl, rfl, rfl, id⟩, trivial⟩ rfl
   intro i hi
   obtain ⟨s1, s2⟩ := i2 (out := out) hf htl (show o + 512 * j + 512 ≤ bs.length by omega) i hi
   rw [hl] at s1
   refine stN ?_
   refine Br.split (fun h => ?_) (fun h => ?_)
   ·have hi : i < 32 := by have := of_decide_eq_true h; omega
    have hs1 : (lQ f bs (o + 512 * j) out t (i + 1)).1 = (lQ f bs (o + 512 * j) out t i).1 ++ wR f (lQ f bs (o + 512 * j) out t i).2 ((bs.drop (o + 512 * j + 16 * i)).take 16) := rfl
    have hs2 : (lQ f bs (o + 512 * j) out t (i + 1)).2 = twF (lQ f bs (o + 512 * j) out t i).2 := rfl
    have hp : ((bs.drop (o + 512 * j + 16 * i)).take 16).length = 16 := by rw [List.length_take, List.length_drop]; omega
    generalize (lQ f bs (o + 512 * j) out t i).1 = O at s1 hs1 ⊢
    generalize (lQ f bs (o + 512 * j) out t i).2 = w at s2 hs1 hs2 ⊢
    have hq : (eM ((bs.drop (o + 512 * j + 16 * i)).take 16) w).length = 16 := by rw [aJ, hp]
    have hfq := hf _ hq
    have hbl2 : (eM (f (eM ((bs.drop (o + 512 * j + 16 * i)).take 16) w)) w).length = 16 := by rw [aJ, hfq]
    have hwl := fV w
    rw [s2] at hwl
    refine stN ?_
    refine bF (wT ((bs.drop (o + 512 * j + 16 * i)).take 16) w hp s2) [] rfl rfl trivial rfl rfl ?_
    refine stN ?_
    refine bF (hg _ hq) [1] rfl rfl ⟨⟨_, rfl, rfl, (aG _ k1).symm, id⟩, trivial⟩ rfl rfl ?_
    refine stN ?_
    refine bF (wT _ w hfq s2) [] rfl rfl trivial rfl rfl ?_
    refine stN ?_
    refine ⟨0, ?_⟩
    refine stN ?_
    refine bF (vD w s2) [] rfl rfl trivial rfl rfl ?_
    refine stN ?_
    refine bQ (i + 1) [0, 1, 2, 3, 7, 5] ?_ ?_ ?_
    ·omega
    ·omega
    ·refine aN rfl ⟨rfl, rfl, rfl, rfl, cF rfl ?_ rfl, rfl, cF ?_ ?_ ?_, trivial⟩ ⟨⟨_, rfl, rfl, rfl, id⟩, ⟨_, rfl, rfl, (aG _ k1).symm, id⟩, ⟨_, rfl, rfl, (aG _ k2).symm, id⟩, ⟨_, rfl, rfl, rfl, id⟩, ⟨_, rfl, rfl, congrArg D.u8s ?_, id⟩, ⟨_, rfl, rfl, congrArg D.u8s hs2.symm, id⟩, trivial⟩ rfl
     ·show 512 * j + 16 * i + 16 = 512 * j + 16 * (i + 1)
      omega
     ·show o + 512 * j + 16 * i + 16 = o + 512 * j + 16 * (i + 1)
      omega
     ·show ((512 - 16 * i : Nat) : Int).toNat - 16 = 512 - 16 * (i + 1)
      omega
     ·show some (512 - 16 * i - 16) = some (512 - 16 * (i + 1))
      rw [show 512 - 16 * i - 16 = 512 - 16 * (i + 1) by omega]
     ·rw [hs1]
      show List.take (512 * j + 16 * i) O ++ List.take 16 (wR f w _) = _
      rw [List.take_of_length_le (by omega), List.take_of_length_le (by rw [e5 hf hp]; exact Nat.le_refl _)]
   ·have hi : i = 32 := by have := of_decide_eq_false h; omega
    subst hi
    refine stN ?_
    refine bQ (j + 1) [0, 1, 2, 3, 4] ?_ ?_ ?_
    ·omega
    ·omega
    ·refine aN rfl ⟨rfl, rfl, cF ?_ ?_ rfl, rfl, rfl, trivial⟩ ⟨⟨_, rfl, rfl, rfl, id⟩, ⟨_, rfl, rfl, (aG _ k1).symm, id⟩, ⟨_, rfl, rfl, (aG _ k2).symm, id⟩, ⟨_, rfl, rfl, rfl, id⟩, ⟨_, rfl, rfl, congrArg D.u8s hc.symm, id⟩, trivial⟩ rfl
     ·show o + 512 * j + 512 = o + 512 * (j + 1)
      omega
     ·show ((512 * m - 512 * j : Nat) : Int).toNat - 512 = 512 * m - 512 * (j + 1)
      omega
  ·have hj : j = m := by have := of_decide_eq_false h; omega
   subst hj
   refine stN ?_
   refine gC [0, 1, 2, 3, 4] ⟨rfl, rfl⟩ rfl ⟨⟨_, rfl, rfl, rfl, id⟩, ⟨_, rfl, rfl, rfl, id⟩, ⟨_, rfl, rfl, (aG _ k1).symm, id⟩, ⟨_, rfl, rfl, (aG _ k2).symm, id⟩, ⟨_, rfl, rfl, rfl, id⟩, trivial⟩ rfl
 ·refine cN tab mix Tryz.func74 rfl (by kernel_rfl) (by kernel_rfl) (by kernel_rfl) {} ?_
  repeat first | rw [hrem] | refine st1 ?_
  refine Br.no rfl ?_
  refine stN ?_
  refine Br.no rfl ?_
  refine stN ?_
  refine Br.no rfl ?_
  refine stN ?_
  refine Br.no (decide_eq_false (by omega)) ?_
  refine stN ?_
  refine aX Nat (fun j => [(0, .ptr 0 []), (1, .u64 (s + BitVec.ofNat 64 j)), (2, .slice 3 [] (o + 512 * j) (512 * m - 512 * j) (capI cap j)), (3, .fn g [.ptr 1 []] []), (10, .slice 4 [] 0 (512 * j) none)])
   (fun j => [(0, some ⟨tX, .node [.ptr 1 [], .ptr 2 []], true⟩), (1, some ⟨tC, cH k1, true⟩), (2, some ⟨tC, cH k2, true⟩), (3, some ⟨.arr n .cell, .u8s bs, false⟩), (4, some ⟨.row .cell, .u8s (ovI f k2 bs o s j), true⟩)]) 5
   (fun j => j ≤ m) (fun j => m - j) 0 [0, 1, 2, 3, 4] (Nat.zero_le _) ?_ ?_
  ·refine aN rfl ⟨rfl, congrArg (fun x => some (D.u64 x)) (BitVec.add_zero s).symm, rfl, rfl, rfl, trivial⟩ ⟨⟨_, rfl, rfl, rfl, id⟩, ⟨_, rfl, rfl, (aG _ k1).symm, id⟩, ⟨_, rfl, rfl, (aG _ k2).symm, id⟩, ⟨_, rfl, rfl, rfl, id⟩, ⟨_, rfl, rfl, rfl, id⟩, trivial⟩ rfl
  intro j hj
  have hl := eU hf k2 s hm j hj
  refine stN ?_
  refine Br.split (fun h => ?_) (fun h => ?_)
  ·have hj : j < m := by have := of_decide_eq_true h; omega
   have hc : ovI f k2 bs o s (j + 1) = (lQ f bs (o + 512 * j) (ovI f k2 bs o s j) (fS k2 (aB7 (s + BitVec.ofNat 64 j)) 14) 32).1 := rfl
   generalize ovI f k2 bs o s j = out at hl hc ⊢
   have hfa := aDc k2 (s + BitVec.ofNat 64 j) h2
   have htl := bN k2 _ (mN (s + BitVec.ofNat 64 j)) 14
   generalize fS k2 (aB7 (s + BitVec.ofNat 64 j)) 14 = t at hc hfa htl
   refine stN ?_
   refine bF hfa [0, 1, 2] rfl rfl ⟨⟨_, rfl, rfl, rfl, id⟩, ⟨_, rfl, rfl, (aG _ k2).symm, id⟩, trivial⟩ rfl rfl ?_
   refine stN ?_
   have hu : s + BitVec.ofNat 64 j + BitVec.ofNat 64 (Int.toNat 1) = s + BitVec.ofNat 64 (j + 1) := by
    rw [BitVec.add_assoc, ← BitVec.ofNat_add]; rfl
   refine aX Nat (fun i => [(0, .ptr 0 []), (1, .u64 (s + BitVec.ofNat 64 (j + 1))), (2, .slice 3 [] (o + 512 * j) (512 * m - 512 * j) (capI cap j)), (3, .fn g [.ptr 1 []] []), (10, .slice 4 [] 0 (512 * j + 16 * i) none), (11, .ptr 5 []),
     (12, .slice 3 [] (o + 512 * j + 16 * i) (512 - 16 * i) (some (512 - 16 * i)))])
    (fun i => [(0, some ⟨tX, .node [.ptr 1 [], .ptr 2 []], true⟩), (1, some ⟨tC, cH k1, true⟩), (2, some ⟨tC, cH k2, true⟩), (3, some ⟨.arr n .cell, .u8s bs, false⟩), (4, some ⟨.row .cell, .u8s (lQ f bs (o + 512 * j) out t i).1, true⟩),
     (5, some ⟨t16, .u8s (lQ f bs (o + 512 * j) out t i).2, true⟩)]) 6 (fun i => i ≤ 32) (fun i => 32 - i) 0 [0, 1, 2, 3, 4, 5] (Nat.zero_le _) ?_ ?_
   ·refine aN rfl ⟨rfl, congrArg (fun x => some (D.u64 x)) hu, rfl, rfl, rfl, rfl, cF rfl rfl rfl, trivial⟩ ⟨⟨_, rfl, rfl, rfl, id⟩, ⟨_, rfl, rfl, (aG _ k1).symm, id⟩, ⟨_, rfl, rfl, (aG _ k2).symm, id⟩, ⟨_, rfl, rfl, rfl, id⟩, ⟨_, rfl, rfl, rfl, id⟩, ⟨_, rfl, rfl, rfl, id⟩, trivial⟩ rfl
   intro i hi
   obtain ⟨s1, s2⟩ := i2 (out := out) hf htl (show o + 512 * j + 512 ≤ bs.length by omega) i hi
   rw [hl] at s1
   refine stN ?_
   refine Br.split (fun h => ?_) (fun h => ?_)
   ·have hi : i < 32 := by have := of_decide_eq_true h; omega
    have hs1 : (lQ f bs (o + 512 * j) out t (i + 1)).1 = (lQ f bs (o + 512 * j) out t i).1 ++ wR f (lQ f bs (o + 512 * j) out t i).2 ((bs.drop (o + 512 * j + 16 * i)).take 16) := rfl
    have hs2 : (lQ f bs (o + 512 * j) out t (i + 1)).2 = twF (lQ f bs (o + 512 * j) out t i).2 := rfl
    have hp : ((bs.drop (o + 512 * j + 16 * i)).take 16).length = 16 := by rw [List.length_take, List.length_drop]; omega
    generalize (lQ f bs (o + 512 * j) out t i).1 = O at s1 hs1 ⊢
    generalize (lQ f bs (o + 512 * j) out t i).2 = w at s2 hs1 hs2 ⊢
    have hq : (eM ((bs.drop (o + 512 * j + 16 * i)).take 16) w).length = 16 := by rw [aJ, hp]
    have hfq := hf _ hq
    have hbl2 : (eM (f (eM ((bs.drop (o + 512 * j + 16 * i)).take 16) w)) w).length = 16 := by rw [aJ, hfq]
    have hwl := fV w
    rw [s2] at hwl
    refine stN ?_
    refine bF (wT ((bs.drop (o + 512 * j + 16 * i)).take 16) w hp s2) [] rfl rfl trivial rfl rfl ?_
    refine stN ?_
    refine bF (hg _ hq) [1] rfl rfl ⟨⟨_, rfl, rfl, (aG _ k1).symm, id⟩, trivial⟩ rfl rfl ?_
    refine stN ?_
    refine bF (wT _ w hfq s2) [] rfl rfl trivial rfl rfl ?_
    refine stN ?_
    refine ⟨0, ?_⟩
    refine stN ?_
    refine bF (vD w s2) [] rfl rfl trivial rfl rfl ?_
    refine stN ?_
    refine bQ (i + 1) [0, 1, 2, 3, 7, 5] ?_ ?_ ?_
    ·omega
    ·omega
    ·refine aN rfl ⟨rfl, rfl, rfl, rfl, cF rfl ?_ rfl, rfl, cF ?_ ?_ ?_, trivial⟩ ⟨⟨_, rfl, rfl, rfl, id⟩, ⟨_, rfl, rfl, (aG _ k1).symm, id⟩, ⟨_, rfl, rfl, (aG _ k2).symm, id⟩, ⟨_, rfl, rfl, rfl, id⟩, ⟨_, rfl, rfl, congrArg D.u8s ?_, id⟩, ⟨_, rfl, rfl, congrArg D.u8s hs2.symm, id⟩, trivial⟩ rfl
     ·show 512 * j + 16 * i + 16 = 512 * j + 16 * (i + 1)
      omega
     ·show o + 512 * j + 16 * i + 16 = o + 512 * j + 16 * (i + 1)
      omega
     ·show ((512 - 16 * i : Nat) : Int).toNat - 16 = 512 - 16 * (i + 1)
      omega
     ·show some (512 - 16 * i - 16) = some (512 - 16 * (i + 1))
      rw [show 512 - 16 * i - 16 = 512 - 16 * (i + 1) by omega]
     ·rw [hs1]
      show List.take (512 * j + 16 * i) O ++ List.take 16 (wR f w _) = _
      rw [List.take_of_length_le (by omega), List.take_of_length_le (by rw [e5 hf hp]; exact Nat.le_refl _)]
   ·have hi : i = 32 := by have := of_decide_eq_false h; omega
    subst hi
    refine stN ?_
    refine bQ (j + 1) [0, 1, 2, 3, 4] ?_ ?_ ?_
    ·omega
    ·omega
    ·refine aN rfl ⟨rfl, rfl, cF ?_ ?_ rfl, rfl, rfl, trivial⟩ ⟨⟨_, rfl, rfl, rfl, id⟩, ⟨_, rfl, rfl, (aG _ k1).symm, id⟩, ⟨_, rfl, rfl, (aG _ k2).symm, id⟩, ⟨_, rfl, rfl, rfl, id⟩, ⟨_, rfl, rfl, congrArg D.u8s hc.symm, id⟩, trivial⟩ rfl
     ·show o + 512 * j + 512 = o + 512 * (j + 1)
      omega
     ·show ((512 * m - 512 * j : Nat) : Int).toNat - 512 = 512 * m - 512 * (j + 1)
      omega
  ·have hj : j = m := by have := of_decide_eq_false h; omega
   subst hj
   refine stN ?_
   refine gC [0, 1, 2, 3, 4] ⟨rfl, rfl⟩ rfl ⟨⟨_, rfl, rfl, rfl, id⟩, ⟨_, rfl, rfl, rfl, id⟩, ⟨_, rfl, rfl, (aG _ k1).symm, id⟩, ⟨_, rfl, rfl, (aG _ k2).symm, id⟩, ⟨_, rfl, rfl, rfl, id⟩, trivial⟩ rfl
def fZ (B : Nat → B8) : Nat → B8
 |0 => []
 |n + 1 => fZ B n ++ B n
def twN (t : B8) : Nat → B8
 |0 => t
 |n + 1 => twF (twN t n)
def eB (l : B8) (o : Nat) : B8 := (l.drop o).take 16
def twK (k2 : List B8) (s : BitVec 64) (k : Nat) : B8 := twN (fS k2 (aB7 (s + BitVec.ofNat 64 (k / 32))) 14) (k % 32)
def aGm (f : B8 → B8) (k2 : List B8) (bs : B8) (o : Nat) (s : BitVec 64) (k : Nat) : B8 := wR f (twK k2 s k) (eB bs (o + 16 * k))
theorem aFW (f : B8 → B8) (bs : B8) (o : Nat) (out t : B8) : ∀ i, (lQ f bs o out t i).2 = twN t i
 |0 => rfl
 |i + 1 => by
  show twF (lQ f bs o out t i).2 = twF (twN t i)
  rw [aFW f bs o out t i]
theorem aCp (f : B8 → B8) (k2 : List B8) (bs : B8) (o : Nat) (s : BitVec 64) (j : Nat) (out : B8) (hout : out = fZ (aGm f k2 bs o s) (32 * j)) :
  ∀ i, i ≤ 32 → (lQ f bs (o + 512 * j) out (fS k2 (aB7 (s + BitVec.ofNat 64 j)) 14) i).1 = fZ (aGm f k2 bs o s) (32 * j + i)
 |0, _ => hout
 |i + 1, hi => by
  have ih := aCp f k2 bs o s j out hout i (by omega)
  have ht := aFW f bs (o + 512 * j) out (fS k2 (aB7 (s + BitVec.ofNat 64 j)) 14) i
  have e1 : (32 * j + i) / 32 = j := by omega
  have e2 : (32 * j + i) % 32 = i := by omega
  have e3 : o + 512 * j + 16 * i = o + 16 * (32 * j + i) := by omega
  rw [lQ, ih, ht, e3]
  show _ = fZ (aGm f k2 bs o s) (32 * j + i) ++ aGm f k2 bs o s (32 * j + i)
  unfold aGm twK
  rw [e1, e2]
  rfl
theorem sU (f : B8 → B8) (k2 : List B8) (bs : B8) (o : Nat) (s : BitVec 64) : ∀ j, ovI f k2 bs o s j = fZ (aGm f k2 bs o s) (32 * j)
 |0 => rfl
 |j + 1 => by
  rw [ovI, aCp f k2 bs o s j _ (sU f k2 bs o s j) 32 (Nat.le_refl _)]
  rfl
theorem eY {B : Nat → B8} : ∀ {n : Nat}, (∀ k, k < n → (B k).length = 16) → (fZ B n).length = 16 * n
 |0, _ => rfl
 |n + 1, h => by
  rw [fZ, List.length_append, eY (fun k hk => h k (by omega)), h n (by omega)]; omega
theorem iY {B C : Nat → B8} : ∀ {n : Nat}, (∀ k, k < n → B k = C k) → fZ B n = fZ C n
 |0, _ => rfl
 |n + 1, h => by rw [fZ, fZ, iY (fun k hk => h k (by omega)), h n (by omega)]
theorem wO {B : Nat → B8} : ∀ {n : Nat}, (∀ k, k < n → (B k).length = 16) → ∀ k, k < n → eB (fZ B n) (16 * k) = B k
 |0, _, k, hk => by omega
 |n + 1, h, k, hk => by
  have hl := eY (n := n) (fun k hk => h k (by omega))
  unfold eB
  rw [fZ]
  by_cases hkn : k = n
  ·subst hkn
   rw [List.drop_append_of_le_length (by omega), List.drop_eq_nil_of_le (by omega), List.nil_append, List.take_of_length_le (by rw [h k (by omega)]; exact Nat.le_refl _)]
  ·rw [List.drop_append_of_le_length (by omega), List.take_append_of_le_length (by rw [List.length_drop]; omega)]
   exact wO (fun k hk => h k (by omega)) k (by omega)
theorem aBT (l : B8) (o : Nat) : ∀ n, o + 16 * n ≤ l.length → fZ (fun k => eB l (o + 16 * k)) n = (l.drop o).take (16 * n)
 |0, _ => by simp [fZ]
 |n + 1, h => by
  rw [fZ, aBT l o n (by omega), show 16 * (n + 1) = 16 * n + 16 by omega, List.take_add, List.drop_drop]
  rfl
theorem aDi (B : Nat → B8) (m : Nat) : ∀ n, fZ B (m + n) = fZ B m ++ fZ (fun k => B (m + k)) n
 |0 => by simp [fZ]
 |n + 1 => by
  rw [← Nat.add_assoc, fZ, aDi B m n, fZ, List.append_assoc]
theorem dE {l : B8} {o : Nat} (h : o + 16 ≤ l.length) : (eB l o).length = 16 := by
 unfold eB; rw [List.length_take, List.length_drop]; omega
section
variable {f g : B8 → B8} (hf : ∀ p, p.length = 16 → (f p).length = 16) (hgf : ∀ p, p.length = 16 → g (f p) = p)
include f g hf hgf
theorem aIV {t p : B8} (hp : p.length = 16) : wR g t (wR f t p) = p := by
 unfold wR
 rw [rB _ _ (hf _ (by rw [aJ, hp])), hgf _ (by rw [aJ, hp]), rB _ _ hp]
theorem aJ5 (k2 : List B8) (bs : B8) (o m : Nat) (s : BitVec 64) (hm : o + 512 * m ≤ bs.length) :
  ovI g k2 (ovI f k2 bs o s m) 0 s m = (bs.drop o).take (512 * m) := by
 have hlen : ∀ k, k < 32 * m → (aGm f k2 bs o s k).length = 16 := fun k hk => e5 hf (dE (by omega))
 rw [sU g, sU f]
 have e : fZ (aGm g k2 (fZ (aGm f k2 bs o s) (32 * m)) 0 s) (32 * m) = fZ (fun k => eB bs (o + 16 * k)) (32 * m) := by
  refine iY fun k hk => ?_
  have h1 := wO hlen k hk
  show wR g (twK k2 s k) (eB (fZ (aGm f k2 bs o s) (32 * m)) (0 + 16 * k)) = _
  rw [Nat.zero_add, h1]
  exact aIV hf hgf (dE (by omega))
 rw [e, aBT bs o (32 * m) (by omega), show 16 * (32 * m) = 512 * m by omega]
end
abbrev xMem (k1 k2 : List B8) (T : Ty) (bs : B8) : Mem :=
 [(0, some ⟨tX, .node [.ptr 1 [], .ptr 2 []], true⟩), (1, some ⟨tC, cH k1, true⟩), (2, some ⟨tC, cH k2, true⟩), (3, some ⟨T, .u8s bs, false⟩)]
def oJ (k : List B8) (p : B8) : B8 := fS k p 14
theorem aEw (a b : B8) (ha : a.length = 32) (hb : b.length = 32) : AC Tryz.prog 32 [.u8s a, .u8s b] 0 []
  ⟨.ptr 0 [], [], [(tX, .node [.ptr 1 [], .ptr 2 []]), (tC, cH (bO a)), (tC, cH (bO b))]⟩ := by
 have n1 := aId a ha
 have n2 := aId b hb
 generalize bO a = k1 at n1 ⊢
 generalize bO b = k2 at n2 ⊢
 refine cN tab mix Tryz.func32 rfl (by kernel_rfl) (by kernel_rfl) (by kernel_rfl) {} ?_
 refine stN ?_
 refine aBW n1 [] (.ptr 2 []) [(2, some ⟨tC, cH k1, true⟩)] rfl rfl trivial rfl rfl rfl (congrArg (fun d => ([(2, some ⟨tC, d, true⟩)] : Mem)) (aG _ k1)) ?_
 refine stN ?_
 refine aBW n2 [] (.ptr 3 []) [(3, some ⟨tC, cH k2, true⟩)] rfl rfl trivial rfl rfl rfl (congrArg (fun d => ([(3, some ⟨tC, d, true⟩)] : Mem)) (aG _ k2)) ?_
 refine stN ?_
 refine gC [4, 2, 3] rfl rfl ⟨⟨_, rfl, rfl, rfl, id⟩, ⟨_, rfl, rfl, (aG _ k1).symm, id⟩, ⟨_, rfl, rfl, (aG _ k2).symm, id⟩, trivial⟩ rfl
section
variable (T : Ty) (hT : T = .row .cell ∨ ∃ n, T = .arr n .cell) (k1 k2 : List B8) (h1 : Rows 15 16 k1) (h2 : Rows 15 16 k2) (bs : B8) (o m : Nat) (cap : Option Nat) (s : BitVec 64) (hm : o + 512 * m ≤ bs.length) (hm2 : m ≤ 128) (hbl : bs.length < 9223372036854775808)
include T hT k1 k2 h1 h2 bs o m cap s hm hm2 hbl
theorem r7 :
  AC Tryz.prog 37 [.ptr 0 [], .u64 s, .slice 3 [] o (512 * m) cap] 4 (xMem k1 k2 T bs)
   ⟨.tup [.slice 4 [] 0 (512 * m) none, .i64 0], [], [(.row .cell, .u8s (ovI (oJ k1) k2 bs o s m))]⟩ := by
 have ho := aFy T hT 75 (oJ k1) k1 k2 h2 (fun p hp => wM k1 p hp h1.1 h1.2) (fun p hp => bN k1 p hp 14) bs o m cap s hm hm2 hbl
 generalize ovI (oJ k1) k2 bs o s m = out at ho ⊢
 refine cN tab mix Tryz.func37 rfl (by kernel_rfl) (by kernel_rfl) (by kernel_rfl) {} ?_
 refine stN ?_
 refine Br.no rfl ?_
 refine stN ?_
 refine bF ho [0, 1, 2, 3] rfl rfl ⟨⟨_, rfl, rfl, rfl, id⟩, ⟨_, rfl, rfl, (aG _ k1).symm, id⟩, ⟨_, rfl, rfl, (aG _ k2).symm, id⟩, ⟨_, rfl, rfl, rfl, id⟩, trivial⟩ rfl rfl ?_
 refine stN ?_
 refine gC [0, 1, 2, 3, 4] ⟨rfl, rfl⟩ rfl ⟨⟨_, rfl, rfl, rfl, id⟩, ⟨_, rfl, rfl, rfl, id⟩, ⟨_, rfl, rfl, (aG _ k1).symm, id⟩, ⟨_, rfl, rfl, (aG _ k2).symm, id⟩, ⟨_, rfl, rfl, rfl, id⟩, trivial⟩ rfl
theorem aCd :
  AC Tryz.prog 42 [.ptr 0 [], .u64 s, .slice 3 [] o (512 * m) cap] 4 (xMem k1 k2 T bs)
   ⟨.tup [.slice 4 [] 0 (512 * m) none, .i64 0], [], [(.row .cell, .u8s (ovI (iH k1) k2 bs o s m))]⟩ := by
 have ho := aFy T hT 84 (iH k1) k1 k2 h2 (fun p hp => aEd k1 p hp h1.1 h1.2) (fun p hp => by rw [iH, aJ, dC k1 p hp]) bs o m cap s hm hm2 hbl
 generalize ovI (iH k1) k2 bs o s m = out at ho ⊢
 refine cN tab mix Tryz.func42 rfl (by kernel_rfl) (by kernel_rfl) (by kernel_rfl) {} ?_
 refine stN ?_
 refine Br.no rfl ?_
 refine stN ?_
 refine bF ho [0, 1, 2, 3] rfl rfl ⟨⟨_, rfl, rfl, rfl, id⟩, ⟨_, rfl, rfl, (aG _ k1).symm, id⟩, ⟨_, rfl, rfl, (aG _ k2).symm, id⟩, ⟨_, rfl, rfl, rfl, id⟩, trivial⟩ rfl rfl ?_
 refine stN ?_
 refine gC [0, 1, 2, 3, 4] ⟨rfl, rfl⟩ rfl ⟨⟨_, rfl, rfl, rfl, id⟩, ⟨_, rfl, rfl, rfl, id⟩, ⟨_, rfl, rfl, (aG _ k1).symm, id⟩, ⟨_, rfl, rfl, (aG _ k2).symm, id⟩, ⟨_, rfl, rfl, rfl, id⟩, trivial⟩ rfl
end
theorem aJl (ks ss us vs : B8) (p k q l r n o t : Nat) (c d f g : Option Nat) (ha : p + k ≤ ks.length) (hb : q + l ≤ ss.length) (hc : r + n ≤ us.length) (hd : o + t ≤ vs.length) (hk : k ≤ 64) (hl0 : 0 < l) (hl : l ≤ 10000000) (hn0 : 0 < n) (hn : n ≤ 10000000) (ht0 : 0 < t) (ht : t ≤ 10000000) :
  AC Tryz.prog 73 [.slice 0 [] p k c, .slice 1 [] 0 3 (some 3)] 5 [(0, some ⟨.row .cell, .u8s ks, false⟩), (1, some ⟨.row .cell, .node [.slice 2 [] q l d, .slice 3 [] r n f, .slice 4 [] o t g], true⟩), (2, some ⟨.row .cell, .u8s ss, false⟩), (3, some ⟨.row .cell, .u8s us, false⟩), (4, some ⟨.row .cell, .u8s vs, false⟩), gR]
   ⟨.u8s (hmF ((ks.drop p).take k) ((ss.drop q).take l ++ (us.drop r).take n ++ (vs.drop o).take t)), [], []⟩ := by
 have hkl : ((ks.drop p).take k).length = k := by rw [List.length_take, List.length_drop]; omega
 have hbl : ((ss.drop q).take l).length = l := by rw [List.length_take, List.length_drop]; omega
 have hul : ((us.drop r).take n).length = n := by rw [List.length_take, List.length_drop]; omega
 have hvl : ((vs.drop o).take t).length = t := by rw [List.length_take, List.length_drop]; omega
 have hn := aG0 ks p k c ha hk
 have e : hmF ((ks.drop p).take k) ((ss.drop q).take l ++ (us.drop r).take n ++ (vs.drop o).take t) = dI (opF ((ks.drop p).take k) ++ dI (ipF ((ks.drop p).take k) ++ ((ss.drop q).take l ++ (us.drop r).take n ++ (vs.drop o).take t))) := rfl
 rw [← List.append_assoc, ← List.append_assoc] at e
 have hO := kW ((ks.drop p).take k)
 have hN := kZ (key := (ks.drop p).take k) (by omega)
 generalize hmF ((ks.drop p).take k) ((ss.drop q).take l ++ (us.drop r).take n ++ (vs.drop o).take t) = y at e ⊢
 generalize opF ((ks.drop p).take k) = O at hn e hO
 generalize ipF ((ks.drop p).take k) = N at hn e hN
 have hw := gI O N N ss 64 q l d (ip0 hN) (by rw [hN]; decide) hb hl0 (by omega) (by omega)
 have hr := eT N ((ss.drop q).take l) hbl
 have hm := eS N ((ss.drop q).take l) hbl
 rw [hN] at hr hm
 generalize (ss.drop q).take l = b at hw hr hm e hbl
 have hNl : (N ++ b).length = 64 + l := by rw [List.length_append, hN, hbl]
 have hw2 := gI O (N ++ b) (reF N ++ b) us (64 * ((64 % 64 + l) / 64)) r n f (by rw [hNl]; exact hr) (by rw [hNl]; exact hm) hc hn0 (by omega) (by omega)
 have hr2 := eT (N ++ b) ((us.drop r).take n) hul
 have hm2 := eS (N ++ b) ((us.drop r).take n) hul
 rw [hNl] at hr2 hm2
 generalize (us.drop r).take n = u at hw2 hr2 hm2 e hul
 have hNl2 : (N ++ b ++ u).length = 64 + l + n := by rw [List.length_append, hNl, hul]
 have hw3 := gI O (N ++ b ++ u) (reF (N ++ b) ++ u) vs (64 * (((64 + l) % 64 + n) / 64)) o t g (by rw [hNl2]; exact hr2) (by rw [hNl2]; exact hm2) hd ht0 (by omega) (by omega)
 have hr3 := eT (N ++ b ++ u) ((vs.drop o).take t) hvl
 have hm3 := eS (N ++ b ++ u) ((vs.drop o).take t) hvl
 rw [hNl2] at hr3 hm3
 generalize (vs.drop o).take t = v at hw3 hr3 hm3 e hvl
 have hNl3 : (N ++ b ++ u ++ v).length = 64 + l + n + t := by rw [List.length_append, hNl2, hvl]
 have hs := aAd O (N ++ b ++ u ++ v) (reF (N ++ b ++ u) ++ v) (64 * (((64 + l + n) % 64 + t) / 64)) (by rw [hNl3]; exact hr3) (by rw [hNl3]; exact hm3) (by omega) hO
 rw [← e, hNl3] at hs
 rw [hNl2] at hw3
 rw [hNl] at hw2
 rw [hN] at hw
 have hy : y.length = 32 := by rw [e]; exact bI _
 refine acA tab mix Tryz.func73 ⟨[], [3]⟩ ?_
 refine go ?_
 refine bG hn [0] ?_
 refine oI 4 ?_
 refine gob ?_
 refine aA hw [6, 7, 2, 8] ?_
 refine aA hw2 [6, 7, 3, 9] ?_
 refine aA hw3 [6, 7, 4, 10] ?_
 refine bG hs [6, 7, 11] ?_
 refine aI [0, 1, 2, 3, 4]
def oW : B8 := [108, 101, 97, 102]
def gX : B8 := [112, 97, 103, 101]
def jL : B8 := [110, 111, 100, 101]
def u4B (n : BitVec 32) : B8 := nbF (n.setWidth 64) 4
def bY (tag : B8) (at' : BitVec 32) (b : B8) : B8 := hmF tag (oW ++ u4B at' ++ b)
theorem aR (tag : B8) (at' : BitVec 32) (b : B8) : (bY tag at' b).length = 32 := wA _ _
section
variable (bs : B8) (o k : Nat) (cap : Option Nat) (h : o + k ≤ bs.length) (hk0 : 0 < k) (hk : k ≤ 10000000)
include bs o k cap h hk0 hk
theorem aHm :
  AC Tryz.prog 56 [.slice 0 [] o k cap] 1 [(0, some ⟨.row .cell, .u8s bs, false⟩), gR] ⟨.u8s (dI (gX ++ (bs.drop o).take k)), [], []⟩ := by
 have h1 := aGE gX bs 0 4 o k (some 4) cap (by decide) h (by decide) hk0 (by decide) (by omega)
 rw [List.drop_zero, List.take_of_length_le (by decide)] at h1
 have hy := bI (gX ++ (bs.drop o).take k)
 generalize dI (gX ++ (bs.drop o).take k) = y at h1 hy ⊢
 refine acA tab mix Tryz.func56 {} ?_
 refine gob ?_
 refine aA h1 [3, 2, 0] ?_
 refine aI [0]
theorem aJ8 :
  AC Tryz.prog 49 [.slice 0 [] o k cap] 1 [(0, some ⟨.row .cell, .u8s bs, false⟩), gR] ⟨.u8s (dI (jL ++ (bs.drop o).take k)), [], []⟩ := by
 have h1 := aGE jL bs 0 4 o k (some 4) cap (by decide) h (by decide) hk0 (by decide) (by omega)
 rw [List.drop_zero, List.take_of_length_le (by decide)] at h1
 have hy := bI (jL ++ (bs.drop o).take k)
 generalize dI (jL ++ (bs.drop o).take k) = y at h1 hy ⊢
 refine acA tab mix Tryz.func49 {} ?_
 refine gob ?_
 refine aA h1 [3, 2, 0] ?_
 refine aI [0]
end
theorem aDW (tag bs : B8) (n : BitVec 32) (o k : Nat) (cap : Option Nat) (ht : tag.length = 32) (h : o + k ≤ bs.length) (hk0 : 0 < k) (hk : k ≤ 10000000) :
  AC Tryz.prog 81 [.u8s tag, .u32 n, .slice 0 [] o k cap] 1 [(0, some ⟨.row .cell, .u8s bs, false⟩), gR] ⟨.u8s (bY tag n ((bs.drop o).take k)), [], []⟩ := by
 have hp := fA n
 have hl := aZ (n.setWidth 64) 4
 have h1 := aJl tag oW (nbF (n.setWidth 64) 4) bs 0 32 0 4 0 4 o k (some 32) (some 4) none cap (by omega) (by decide) (by omega) h (by decide) (by decide) (by decide) (by decide) (by decide) hk0 hk
 rw [List.drop_zero, List.drop_zero, List.drop_zero, List.take_of_length_le (by omega), List.take_of_length_le (by decide), List.take_of_length_le (by omega), show hmF tag (oW ++ nbF (n.setWidth 64) 4 ++ (bs.drop o).take k) = bY tag n ((bs.drop o).take k) from rfl] at h1
 have hy := aR tag n ((bs.drop o).take k)
 generalize bY tag n ((bs.drop o).take k) = y at h1 hy ⊢
 generalize nbF (n.setWidth 64) 4 = Z at hp hl h1
 refine acA tab mix Tryz.func81 {} ?_
 refine gob ?_
 refine aA hp [] ?_
 refine aA (h1.arr 0 32) [1, 5, 3, 4, 0] ?_
 refine aI [0]
abbrev tSp : Ty := .st [.cell, .st [.cell, .cell], .cell, .arr 32 .cell]
abbrev gU : Ty := .st [.cell, .arr 32 .cell]
def aB (n : BitVec 32) (s : B8) : D := .node [.u32 n, .u8s s]
abbrev spD (d x c : Nat) (tag : B8) : D := .node [.ptr d [], aCZ c 1, .ptr x [], .u8s tag]
theorem xU (c : Nat) (tag bs : B8) (n : BitVec 32) (o k : Nat) (cap : Option Nat) (ht : tag.length = 32) (h : o + k ≤ bs.length) (hk0 : 0 < k) (hk : k ≤ 10000000) :
  AC Tryz.prog 80 [.slice 0 [] o k cap, .ptr 1 [], .ptr 2 []] 6 [(0, some ⟨.row .cell, .u8s bs, false⟩), (1, some ⟨.cell, .ptr 3 [], false⟩), (2, some ⟨.cell, .u32 n, false⟩), (3, some ⟨tSp, spD 4 5 c tag, false⟩), gR] ⟨.u8s (bY tag n ((bs.drop o).take k)), [], []⟩ := by
 have h1 := aDW tag bs n o k cap ht h hk0 hk
 have hy := aR tag n ((bs.drop o).take k)
 generalize bY tag n ((bs.drop o).take k) = y at h1 hy ⊢
 refine acA tab mix Tryz.func80 {} ?_
 refine gob ?_
 refine aA h1 [0] ?_
 refine aI [0, 1, 2, 3, 4, 5]
theorem gJ (n : BitVec 32) : AC Tryz.prog 40 [.ptr 0 [], .u32 n] 1 [] ⟨.fn 80 [] [.ptr 1 [], .ptr 2 []], [], [(.cell, .ptr 0 []), (.cell, .u32 n)]⟩ := by
 refine acA tab mix Tryz.func40 {} ?_
 refine gob ?_
 refine aI [0, 1, 2]
theorem w4 (d x c : Nat) (tag : B8) (hd : d < 3) (hx : x < 3) : AC Tryz.prog 36 [.ptr 0 []] 3 [(0, some ⟨tSp, spD 1 2 c tag, false⟩)] ⟨.i64 512, [], []⟩ := by
 refine acA tab mix Tryz.func36 {} ?_
 refine gob ?_
 refine aI [0, 1, 2]
theorem nN (c : Nat) (n : BitVec 32) (hc : 1 ≤ c) (hc2 : c ≤ 64) (hn : n.toNat ≤ 65535) : AC Tryz.prog 76 [aCZ c 1, .u32 n] 0 [] ⟨.i64 (512 * (8 + n.toNat) : Nat), [], []⟩ := by
 have h := aDR c 1 n hc hc2 (by decide) (by decide) hn
 rw [show ((8 + (n.toNat : Int) * ((1 : Nat) : Int)) * 512) = ((512 * (8 + n.toNat) : Nat) : Int) by omega] at h
 exact h
theorem zS (c : Nat) (tag : B8) (n : BitVec 32) (hc : 1 ≤ c) (hc2 : c ≤ 64) (hn : n.toNat ≤ 65535) : AC Tryz.prog 38 [.ptr 0 [], .u32 n] 3 [(0, some ⟨tSp, spD 1 2 c tag, false⟩)] ⟨.u64 (BitVec.ofNat 64 (8 + n.toNat)), [], []⟩ := by
 have h := nN c n hc hc2 hn
 have e : Int.tdiv ((512 * (8 + n.toNat) : Nat) : Int) 512 = ((8 + n.toNat : Nat) : Int) := by
  have h0 : Int.tdiv ((512 * (8 + n.toNat) : Nat) : Int) ((512 : Nat) : Int) = ((512 * (8 + n.toNat) / 512 : Nat) : Int) := rfl
  have h1 : 512 * (8 + n.toNat) / 512 = 8 + n.toNat := Nat.mul_div_cancel_left _ (by decide)
  rw [h1] at h0; exact h0
 have e2 : BitVec.ofNat 64 (8 + n.toNat) = BitVec.ofInt 64 (Int.tdiv ((512 * (8 + n.toNat) : Nat) : Int) 512) := by rw [e]; rfl
 rw [e2]
 have hI : inI (Int.tdiv ((512 * (8 + n.toNat) : Nat) : Int) 512) := by rw [e]; unfold inI; omega
 clear e e2
 refine acA tab mix Tryz.func38 {} ?_
 refine gob ?_
 refine aA h [] ?_
 refine aI [0, 1, 2]
theorem aBb (e : Int) (h : e ≠ 43) : AC Tryz.prog 79 [.i64 e] 0 [] ⟨.i64 e, [], []⟩ := by
 refine acA tab mix Tryz.func79 {} ?_
 refine gob ?_
 refine aI []
theorem jP : AC Tryz.prog 79 [.i64 43] 0 [] ⟨.i64 40, [], []⟩ := by
 refine acA tab mix Tryz.func79 {} ?_
 refine gob ?_
 refine aI []
abbrev spM (c : Nat) (tag : B8) (k1 k2 : List B8) (most N : Nat) (cap : Option Nat) (N2 : Nat) (cap2 : Option Nat) (ls : List Lo) (st : Nat) (S : B8) : Mem :=
 cX 3 ls ++ [(0, some ⟨tDv, dvD most N cap N2 cap2 (dU 3 ls) st, true⟩), (1, some ⟨.row .cell, .u8s S, true⟩), (4, some ⟨tSp, spD 0 5 c tag, true⟩), (5, some ⟨tX, .node [.ptr 6 [], .ptr 7 []], true⟩), (6, some ⟨tC, cH k1, true⟩), (7, some ⟨tC, cH k2, true⟩), gR]
def lL (b : B8) : B8 := b ++ List.replicate (512 - b.length) 0
theorem aHE (m : BitVec 32) (c : Nat) (tag : B8) (k1 k2 : List B8) (most N : Nat) (cap : Option Nat) (N2 : Nat) (cap2 : Option Nat) (ls : List Lo) (st : Nat) (S : B8) (n : BitVec 32) (B : B8) (o k : Nat) (cap3 : Option Nat) (hc : 1 ≤ c) (hc2 : c ≤ 64) (ht : tag.length = 32) (hls : ∀ x ∈ ls, x.bytes.length = 512) (hS : S.length = N) (hn : n.toNat ≤ 65535) (hq : 512 * (8 + n.toNat) + 512 ≤ N) (hB : o + k ≤ B.length) (hk : k ≤ 512) (hN : N ≤ most) (hm : most ≤ 16777216) (hl : ls.length < 1000) (hst : st < 1000) :
  AC Tryz.prog 39 [.ptr 4 [], .u32 n, .slice 8 [] o k cap3, .fn 80 [] [.ptr 9 [], .ptr 10 []]] 11 (spM c tag k1 k2 most N cap N2 cap2 ls st S ++ [(8, some ⟨.row .cell, .u8s B, false⟩), (9, some ⟨.cell, .ptr 4 [], true⟩), (10, some ⟨.cell, .u32 m, true⟩)])
   ⟨.tup [aB (n + 1) (bY tag m (lL ((B.drop o).take k))), .i64 0], (cX 3 ls).map (fun p => (p.1, none)) ++ [(0, some (dvD most N cap N2 cap2 (.slice 11 [] 0 (ls.length + 1) none) (st + 1))), (1, some (.u8s (jN S (lL ((B.drop o).take k)) (512 * (8 + n.toNat)))))],
    [(.row tLo, cQ (ls ++ [loF (jN S (lL ((B.drop o).take k)) (512 * (8 + n.toNat))) (8 + n.toNat)]))]⟩ := by
 have hbl : ((B.drop o).take k).length = k := by rw [List.length_take, List.length_drop]; omega
 have hpd := aCO B o k 512 cap3 hB hk (by decide)
 have hsz := w4 0 0 c tag (by decide) (by decide)
 have hpl := nN c n hc hc2 hn
 have hpe : (B.drop o).take k ++ List.replicate (512 - k) 0 = lL ((B.drop o).take k) := by rw [lL, hbl]
 rw [hpe] at hpd
 have hPl : (lL ((B.drop o).take k)).length = 512 := by rw [lL, List.length_append, List.length_replicate]; omega
 generalize lL ((B.drop o).take k) = Q at hpd hPl ⊢
 have hw := aGd most N cap N2 cap2 ls hls st (8 + n.toNat) 0 none S Q hS hq (by omega) hN hm hl hst
 rw [List.drop_zero, List.take_of_length_le (by omega)] at hw
 have hsum := xU c tag Q m 0 512 none ht (by omega) (by decide) (by decide)
 rw [List.drop_zero, List.take_of_length_le (by omega)] at hsum
 have hFl := aR tag m Q
 generalize bY tag m Q = sum at hsum hFl ⊢
 generalize jN S Q (512 * (8 + n.toNat)) = S' at hw ⊢
 refine acA tab mix Tryz.func39 {} ?_
 cases ls
 ·refine gob ?_
  refine brN ?_ (decide_eq_false (show ¬ 65535 < n.toNat by omega))
  refine gob ?_
  refine aA hsz [4, 0, 5] ?_
  refine aA hpd [8] ?_
  refine aA hpl [] ?_
  refine aA hw [0, 1, 2, 3, 12] ?_
  refine aA hsum [12, 9, 10, 4, 0, 5] ?_
  refine aI [0, 1, 2, 3, 4, 5, 6, 7, 8, 9, 10, 13]
 ·refine gob ?_
  refine brN ?_ (decide_eq_false (show ¬ 65535 < n.toNat by omega))
  refine gob ?_
  refine aA hsz [4, 0, 5] ?_
  refine aA hpd [8] ?_
  refine aA hpl [] ?_
  refine aA hw [0, 1, 2, 3, 12] ?_
  refine aA hsum [12, 9, 10, 4, 0, 5] ?_
  refine aI [0, 1, 2, 3, 4, 5, 6, 7, 8, 9, 10, 13]
theorem b8 {a : BitVec 32} (h : 1 ≤ a.toNat) : (a - 1).toNat = a.toNat - 1 := by
 have := a.isLt
 rw [BitVec.toNat_sub]; show (2 ^ 32 - 1 + a.toNat) % 2 ^ 32 = _; omega
section
variable (m : BitVec 32) (c : Nat) (tag : B8) (k1 k2 : List B8) (most N : Nat) (cap : Option Nat) (N2 : Nat) (cap2 : Option Nat) (ls : List Lo) (st : Nat) (S : B8) (a : BitVec 32) (r : B8) (hc : 1 ≤ c) (hc2 : c ≤ 64) (ht : tag.length = 32) (hr : r.length = 32) (hS : S.length = N) (ha0 : 1 ≤ a.toNat) (ha : a.toNat ≤ 65536) (hq : 512 * (8 + (a - 1).toNat) + 512 ≤ N) (hN : N < 70368744177664)
include m c tag k1 k2 most N cap N2 cap2 ls st S a r hc hc2 ht hr hS ha0 ha hq hN
theorem aHK (he : bY tag m ((S.drop (512 * (8 + (a - 1).toNat))).take 512) = r) :
  AC Tryz.prog 41 [.ptr 4 [], aB a r, .fn 80 [] [.ptr 8 [], .ptr 9 []]] 10 (spM c tag k1 k2 most N cap N2 cap2 ls st S ++ [(8, some ⟨.cell, .ptr 4 [], true⟩), (9, some ⟨.cell, .u32 m, true⟩)])
   ⟨.tup [.slice 10 [] 0 512 none, .i64 0], [], [(.row .cell, .u8s ((S.drop (512 * (8 + (a - 1).toNat))).take 512))]⟩ := by
 have hs1 := b8 ha0
 have hsz := w4 0 0 c tag (by decide) (by decide)
 have hpl := nN c (a - 1) hc hc2 (by omega)
 have hrd := lD most N cap N2 cap2 ls st (512 * (8 + (a - 1).toNat)) 512 S hS hq hN
 have hQl : ((S.drop (512 * (8 + (a - 1).toNat))).take 512).length = 512 := by rw [List.length_take, List.length_drop]; omega
 generalize (S.drop (512 * (8 + (a - 1).toNat))).take 512 = Q at hrd hQl he ⊢
 have hsum := xU c tag Q m 0 512 none ht (by omega) (by decide) (by decide)
 rw [List.drop_zero, List.take_of_length_le (by omega)] at hsum
 have heq := lC (bY tag m Q) r 32 (some 32) (some 32) (aR _ _ _) hr (by decide)
 rw [decide_eq_true he] at heq
 have hFl := aR tag m Q
 generalize bY tag m Q = sum at hsum hFl heq he
 have q0 : decide (a = BitVec.ofNat 32 (Int.toNat 0)) = false := decide_eq_false (fun e => by rw [e] at ha0; exact absurd ha0 (by decide))
 refine acA tab mix Tryz.func41 {} ?_
 cases ls
 ·refine gob ?_
  rw [q0]
  refine gob ?_
  refine brN ?_ (decide_eq_false (show ¬ 65536 < a.toNat by omega))
  refine gob ?_
  refine aA hpl [] ?_
  refine aA hsz [4, 0, 5] ?_
  refine aA hrd [0, 1, 2, 3] ?_
  refine aA hsum [11, 8, 9, 4, 0, 5] ?_
  refine aA ((heq.arr 0 32).arrAt 1 32 [.fld 1] gU (aB a r)) [12, 10] ?_
  refine aI [0, 1, 2, 3, 4, 5, 6, 7, 8, 9, 11]
 ·refine gob ?_
  rw [q0]
  refine gob ?_
  refine brN ?_ (decide_eq_false (show ¬ 65536 < a.toNat by omega))
  refine gob ?_
  refine aA hpl [] ?_
  refine aA hsz [4, 0, 5] ?_
  refine aA hrd [0, 1, 2, 3] ?_
  refine aA hsum [11, 8, 9, 4, 0, 5] ?_
  refine aA ((heq.arr 0 32).arrAt 1 32 [.fld 1] gU (aB a r)) [12, 10] ?_
  refine aI [0, 1, 2, 3, 4, 5, 6, 7, 8, 9, 11]
theorem aFS (he : ¬ bY tag m ((S.drop (512 * (8 + (a - 1).toNat))).take 512) = r) :
  AC Tryz.prog 41 [.ptr 4 [], aB a r, .fn 80 [] [.ptr 8 [], .ptr 9 []]] 10 (spM c tag k1 k2 most N cap N2 cap2 ls st S ++ [(8, some ⟨.cell, .ptr 4 [], true⟩), (9, some ⟨.cell, .u32 m, true⟩)])
   ⟨.tup [.nilslice, .i64 40], [], []⟩ := by
 have hs1 := b8 ha0
 have hsz := w4 0 0 c tag (by decide) (by decide)
 have hpl := nN c (a - 1) hc hc2 (by omega)
 have hrd := lD most N cap N2 cap2 ls st (512 * (8 + (a - 1).toNat)) 512 S hS hq hN
 have hQl : ((S.drop (512 * (8 + (a - 1).toNat))).take 512).length = 512 := by rw [List.length_take, List.length_drop]; omega
 generalize (S.drop (512 * (8 + (a - 1).toNat))).take 512 = Q at hrd hQl he
 have hsum := xU c tag Q m 0 512 none ht (by omega) (by decide) (by decide)
 rw [List.drop_zero, List.take_of_length_le (by omega)] at hsum
 have heq := lC (bY tag m Q) r 32 (some 32) (some 32) (aR _ _ _) hr (by decide)
 rw [decide_eq_false he] at heq
 have hFl := aR tag m Q
 generalize bY tag m Q = sum at hsum hFl heq he
 have q0 : decide (a = BitVec.ofNat 32 (Int.toNat 0)) = false := decide_eq_false (fun e => by rw [e] at ha0; exact absurd ha0 (by decide))
 refine acA tab mix Tryz.func41 {} ?_
 cases ls
 ·refine gob ?_
  rw [q0]
  refine gob ?_
  refine brN ?_ (decide_eq_false (show ¬ 65536 < a.toNat by omega))
  refine gob ?_
  refine aA hpl [] ?_
  refine aA hsz [4, 0, 5] ?_
  refine aA hrd [0, 1, 2, 3] ?_
  refine aA hsum [11, 8, 9, 4, 0, 5] ?_
  refine aA ((heq.arr 0 32).arrAt 1 32 [.fld 1] gU (aB a r)) [12, 10] ?_
  refine aI [0, 1, 2, 3, 4, 5, 6, 7, 8, 9]
 ·refine gob ?_
  rw [q0]
  refine gob ?_
  refine brN ?_ (decide_eq_false (show ¬ 65536 < a.toNat by omega))
  refine gob ?_
  refine aA hpl [] ?_
  refine aA hsz [4, 0, 5] ?_
  refine aA hrd [0, 1, 2, 3] ?_
  refine aA hsum [11, 8, 9, 4, 0, 5] ?_
  refine aA ((heq.arr 0 32).arrAt 1 32 [.fld 1] gU (aB a r)) [12, 10] ?_
  refine aI [0, 1, 2, 3, 4, 5, 6, 7, 8, 9]
end
theorem cK (key : B8) (hk : key.length = 32) : Rows 15 16 (bO key) := ⟨i3 key, lR key hk⟩
section
variable (k1 k2 : List B8) (bs : B8) (o m : Nat) (s : BitVec 64) (hm : o + 512 * m ≤ bs.length)
include k1 k2 bs o m s hm
theorem aEx : ovI (iH k1) k2 (ovI (oJ k1) k2 bs o s m) 0 s m = (bs.drop o).take (512 * m) :=
 aJ5 (f := oJ k1) (g := iH k1) (fun p hp => bN k1 p hp 14) (fun p hp => by unfold oJ; exact aJz k1 p hp) k2 bs o m s hm
theorem r6 : (ovI (oJ k1) k2 bs o s m).length = 512 * m :=
 eU (fun p hp => bN k1 p hp 14) k2 s hm m (Nat.le_refl _)
theorem aCQ : (ovI (iH k1) k2 bs o s m).length = 512 * m :=
 eU (fun p hp => by rw [iH, aJ, dC k1 p hp]) k2 s hm m (Nat.le_refl _)
end
def zT (k1 k2 : List B8) (bs : B8) (o : Nat) (n : BitVec 32) : B8 := ovI (oJ k1) k2 bs o (BitVec.ofNat 64 (8 + n.toNat)) 1
def aHf (k1 k2 : List B8) (bs : B8) (n : BitVec 32) : B8 := ovI (iH k1) k2 bs 0 (BitVec.ofNat 64 (8 + n.toNat)) 1
section
variable {k1 : List B8} (k2 : List B8) {bs : B8} {o : Nat} (n : BitVec 32) (h : o + 512 ≤ bs.length)
include k1 k2 bs o n h
theorem pI : (zT k1 k2 bs o n).length = 512 := r6 k1 k2 bs o 1 _ h
theorem aGB : aHf k1 k2 (zT k1 k2 bs o n) n = (bs.drop o).take 512 := aEx k1 k2 bs o 1 _ h
end
theorem aCP {b : B8} (h : b.length = 512) : lL b = b := by rw [lL, h]; simp
section
variable (c : Nat) (tag : B8) (k1 k2 : List B8) (most N : Nat) (cap : Option Nat) (N2 : Nat) (cap2 : Option Nat) (ls : List Lo) (st : Nat) (S : B8)
include c tag k1 k2 most N cap N2 cap2 ls st S
theorem aBf (n : BitVec 32) (B : B8) (o : Nat) (cap3 : Option Nat) (h1 : Rows 15 16 k1) (h2 : Rows 15 16 k2) (hc : 1 ≤ c) (hc2 : c ≤ 64) (ht : tag.length = 32) (hls : ∀ x ∈ ls, x.bytes.length = 512) (hS : S.length = N) (hn : n.toNat ≤ 65535) (hq : 512 * (8 + n.toNat) + 512 ≤ N) (hB : o + 512 ≤ B.length) (hB2 : B.length < 9223372036854775808) (hN : N ≤ most) (hm : most ≤ 16777216) (hl : ls.length < 1000) (hst : st < 1000) :
  AC Tryz.prog 11 [.ptr 4 [], .u32 n, .slice 8 [] o 512 cap3] 9 (spM c tag k1 k2 most N cap N2 cap2 ls st S ++ [(8, some ⟨.row .cell, .u8s B, false⟩)])
   ⟨.tup [aB (n + 1) (bY tag (n + 1) (zT k1 k2 B o n)), .i64 0], (cX 3 ls).map (fun p => (p.1, none)) ++ [(0, some (dvD most N cap N2 cap2 (.slice 9 [] 0 (ls.length + 1) none) (st + 1))), (1, some (.u8s (jN S (zT k1 k2 B o n) (512 * (8 + n.toNat)))))],
    [(.row tLo, cQ (ls ++ [loF (jN S (zT k1 k2 B o n) (512 * (8 + n.toNat))) (8 + n.toNat)]))]⟩ := by
 have hsz := w4 0 0 c tag (by decide) (by decide)
 have hse := zS c tag n hc hc2 hn
 have hsl := r7 (.row .cell) (.inl rfl) k1 k2 h1 h2 B o 1 cap3 (BitVec.ofNat 64 (8 + n.toNat)) hB (by decide) hB2
 have hQl := pI (k1 := k1) k2 n hB
 rw [show ovI (oJ k1) k2 B o (BitVec.ofNat 64 (8 + n.toNat)) 1 = zT k1 k2 B o n from rfl] at hsl
 generalize zT k1 k2 B o n = Q at hsl hQl ⊢
 have hlf := gJ (n + 1)
 have hp := aHE (n + 1) c tag k1 k2 most N cap N2 cap2 ls st S n Q 0 512 none hc hc2 ht hls hS hn hq (by omega) (by decide) hN hm hl hst
 rw [List.drop_zero, List.take_of_length_le (by omega), aCP hQl] at hp
 have hy := aR tag (n + 1) Q
 generalize bY tag (n + 1) Q = y at hp hy ⊢
 generalize jN S Q (512 * (8 + n.toNat)) = S' at hp ⊢
 refine acA tab mix Tryz.func11 {} ?_
 cases ls
 ·refine gob ?_
  refine brN ?_ (decide_eq_false (show ¬ 65535 < n.toNat by omega))
  refine gob ?_
  refine aA hsz [4, 0, 5] ?_
  refine aA hse [4, 0, 5] ?_
  refine aA hsl [5, 6, 7, 8] ?_
  refine aA hlf [4] ?_
  refine aA hp [0, 1, 2, 3, 4, 5, 6, 7, 10, 11, 12] ?_
  refine aI [0, 1, 2, 3, 4, 5, 6, 7, 8, 13]
 ·refine gob ?_
  refine brN ?_ (decide_eq_false (show ¬ 65535 < n.toNat by omega))
  refine gob ?_
  refine aA hsz [4, 0, 5] ?_
  refine aA hse [4, 0, 5] ?_
  refine aA hsl [5, 6, 7, 8] ?_
  refine aA hlf [4] ?_
  refine aA hp [0, 1, 2, 3, 4, 5, 6, 7, 10, 11, 12] ?_
  refine aI [0, 1, 2, 3, 4, 5, 6, 7, 8, 13]
theorem aHL (a : BitVec 32) (r : B8) (h1 : Rows 15 16 k1) (h2 : Rows 15 16 k2) (hc : 1 ≤ c) (hc2 : c ≤ 64) (ht : tag.length = 32) (hr : r.length = 32) (hS : S.length = N) (ha0 : 1 ≤ a.toNat) (ha : a.toNat ≤ 65536) (hq : 512 * (8 + (a - 1).toNat) + 512 ≤ N) (hN : N < 70368744177664) (he : bY tag a ((S.drop (512 * (8 + (a - 1).toNat))).take 512) = r) :
  AC Tryz.prog 12 [.ptr 4 [], aB a r] 8 (spM c tag k1 k2 most N cap N2 cap2 ls st S)
   ⟨.tup [.slice 8 [] 0 512 none, .i64 0], [], [(.row .cell, .u8s (aHf k1 k2 ((S.drop (512 * (8 + (a - 1).toNat))).take 512) (a - 1)))]⟩ := by
 have hs1 := b8 ha0
 have hlf := gJ a
 have hse := zS c tag (a - 1) hc hc2 (by omega)
 have hg := aHK a c tag k1 k2 most N cap N2 cap2 ls st S a r hc hc2 ht hr hS ha0 ha hq hN he
 have hQl : ((S.drop (512 * (8 + (a - 1).toNat))).take 512).length = 512 := by rw [List.length_take, List.length_drop]; omega
 clear he
 generalize (S.drop (512 * (8 + (a - 1).toNat))).take 512 = Q at hg hQl ⊢
 have hop := aCd (.row .cell) (.inl rfl) k1 k2 h1 h2 Q 0 1 none (BitVec.ofNat 64 (8 + (a - 1).toNat)) (by omega) (by decide) (by omega)
 rw [show ovI (iH k1) k2 Q 0 (BitVec.ofNat 64 (8 + (a - 1).toNat)) 1 = aHf k1 k2 Q (a - 1) from rfl] at hop
 generalize aHf k1 k2 Q (a - 1) = P at hop ⊢
 refine acA tab mix Tryz.func12 {} ?_
 cases ls
 ·refine gob ?_
  refine aA hlf [4] ?_
  refine aA hg [0, 1, 2, 3, 4, 5, 6, 7, 9, 10] ?_
  refine aA hse [4, 0, 5] ?_
  refine aA hop [5, 6, 7, 11] ?_
  refine aI [0, 1, 2, 3, 4, 5, 6, 7, 12]
 ·refine gob ?_
  refine aA hlf [4] ?_
  refine aA hg [0, 1, 2, 3, 4, 5, 6, 7, 9, 10] ?_
  refine aA hse [4, 0, 5] ?_
  refine aA hop [5, 6, 7, 11] ?_
  refine aI [0, 1, 2, 3, 4, 5, 6, 7, 12]
theorem aFX (a : BitVec 32) (r : B8) (hc : 1 ≤ c) (hc2 : c ≤ 64) (ht : tag.length = 32) (hr : r.length = 32) (hS : S.length = N) (ha0 : 1 ≤ a.toNat) (ha : a.toNat ≤ 65536) (hq : 512 * (8 + (a - 1).toNat) + 512 ≤ N) (hN : N < 70368744177664) (he : ¬ bY tag a ((S.drop (512 * (8 + (a - 1).toNat))).take 512) = r) :
  AC Tryz.prog 12 [.ptr 4 [], aB a r] 8 (spM c tag k1 k2 most N cap N2 cap2 ls st S)
   ⟨.tup [.nilslice, .i64 40], [], []⟩ := by
 have hlf := gJ a
 have hg := aFS a c tag k1 k2 most N cap N2 cap2 ls st S a r hc hc2 ht hr hS ha0 ha hq hN he
 clear he
 refine acA tab mix Tryz.func12 {} ?_
 cases ls
 ·refine gob ?_
  refine aA hlf [4] ?_
  refine aA hg [0, 1, 2, 3, 4, 5, 6, 7, 9, 10] ?_
  refine aI [0, 1, 2, 3, 4, 5, 6, 7]
 ·refine gob ?_
  refine aA hlf [4] ?_
  refine aA hg [0, 1, 2, 3, 4, 5, 6, 7, 9, 10] ?_
  refine aI [0, 1, 2, 3, 4, 5, 6, 7]
end
def b7 (b : B8) : B8 := dI (gX ++ b)
theorem aP (b : B8) : (b7 b).length = 32 := bI _
def dL (b : B8) : B8 := dI (jL ++ b)
theorem bE (b : B8) : (dL b).length = 32 := bI _
def t7 : B8 := [100, 97, 116, 97, 32, 111, 110, 101]
def t6 : B8 := [100, 97, 116, 97, 32, 116, 119, 111]
def qG : B8 := [116, 97, 103]
theorem aIy (c : Nat) (K : B8) (hc : 1 ≤ c) (hc2 : c ≤ 64) (hK : K.length = 32) (hne : ¬ dI (vE c 1 ++ List.replicate (512 - 13) 0) = List.replicate 32 0) :
  AC Tryz.prog 9 [.ptr 0 [], aCZ c 1, .u8s K] 1 [gR]
   ⟨.ptr 1 [], [], [(tSp, spD 0 2 c (fH K qG)), (tX, .node [.ptr 3 [], .ptr 4 []]), (tC, cH (bO (fH K t7))), (tC, cH (bO (fH K t6)))]⟩ := by
 have hs := aFG c 1 hc hc2 (by decide) (by decide)
 have l1 := kY K t7 hK (by decide) (by decide)
 have l2 := kY K t6 hK (by decide) (by decide)
 have l3 := kY K qG hK (by decide) (by decide)
 have y1 := aW K t7
 have y2 := aW K t6
 have y3 := aW K qG
 generalize fH K t7 = z1 at l1 y1 ⊢
 generalize fH K t6 = z2 at l2 y2 ⊢
 generalize fH K qG = z3 at l3 y3 ⊢
 have hx := aEw z1 z2 y1 y2
 generalize bO z1 = k1 at hx ⊢
 generalize bO z2 = k2 at hx ⊢
 have hy := bI (vE c 1 ++ List.replicate (512 - 13) 0)
 generalize dI (vE c 1 ++ List.replicate (512 - 13) 0) = sm at hs hne hy
 refine acA tab mix Tryz.func9 {} ?_
 refine gob ?_
 refine aA hs [] ?_
 refine aA l1 [] ?_
 refine aA l2 [] ?_
 refine aA hx [] ?_
 refine aA l3 [] ?_
 refine aI [0, 6, 3, 4, 5]
section
variable {S B : B8} {p : Nat} (h : p + B.length ≤ S.length)
include S B p h
theorem aJi : ((jN S B p).drop p).take B.length = B := by
 rw [jN, List.append_assoc, List.drop_append_of_le_length (by simp; omega), List.drop_of_length_le (by simp; omega), List.nil_append, List.take_append_of_le_length (Nat.le_refl _), List.take_of_length_le (Nat.le_refl _)]
theorem aGT (i : Nat) : (jN S B p).getD i 0 = if p ≤ i ∧ i < p + B.length then B.getD (i - p) 0 else S.getD i 0 := by
 simp only [jN, List.getD_eq_getElem?_getD, List.getElem?_append, List.length_append, List.length_take, List.getElem?_drop, List.getElem?_take]
 by_cases h1 : i < p
 ·rw [if_pos (by omega), if_pos (by omega), if_pos h1, if_neg (by omega)]
 ·by_cases h2 : i < p + B.length
  ·rw [if_pos (by omega), if_neg (by omega), if_pos ⟨by omega, h2⟩]; congr 3; omega
  ·rw [if_neg (by omega), if_neg (by omega)]; congr 2; congr 1; omega
end
theorem aHs {S B : B8} {p q n : Nat} (h : p + B.length ≤ S.length) (hq : q + n ≤ S.length) (ho : q + n ≤ p ∨ p + B.length ≤ q) : ((jN S B p).drop q).take n = (S.drop q).take n := by
 refine yG (by simp [gL h]) fun i hi => ?_
 have hi' : i < n := by simp [gL h] at hi; omega
 have e : ∀ l : B8, ((l.drop q).take n).getD i 0 = l.getD (q + i) 0 := fun l => by
  simp [List.getD_eq_getElem?_getD, List.getElem?_take, hi']
 rw [e, e, aGT h, if_neg (by omega)]
abbrev zB (n : Nat) : B8 := List.replicate n 0
theorem aDk : AC Tryz.prog 10 [] 0 [] ⟨.ptr 0 [], [], [(tDv, dvD 32768 16384 none 16384 none .nilslice 0), (.row .cell, .u8s (zB 16384)), (.row .cell, .u8s (zB 16384))]⟩ := by
 have h1 := aJx 32768
 have h2 := aIM 32768 16384 0 (zB 16384) none (by simp) (by decide) (by decide)
 rw [List.drop_zero, List.take_of_length_le (by simp)] at h2
 refine acA tab mix Tryz.func10 {} ?_
 refine gob ?_
 refine aA h1 [] ?_
 refine aA h2 [0, 1] ?_
 refine aI [0, 2, 3]
def aHx : B8 := (List.replicate 32 0).set 0 1
theorem shaL {m o : B8} (a : Nat) (h1 : aI2 m a = o) (h3 : (m.length + 9 + zN m.length) / 64 = a) : dI m = o := by rw [w5 _ a h3, h1]
theorem hmL {key m i o : B8} (a : Nat) (h1 : aI2 (ipF key ++ m) a = i) (h2 : aI2 (opF key ++ i) 2 = o) (h3 : ((ipF key ++ m).length + 9 + zN (ipF key ++ m).length) / 64 = a) (h4 : ((opF key ++ i).length + 9 + zN (opF key ++ i).length) / 64 = 2) : hmF key m = o := by
 rw [hmF, w5 _ a h3, h1, w5 _ 2 h4, h2]
def geoE : B8 := [157, 8, 59, 143, 216, 229, 174, 128, 244, 185, 180, 107, 227, 128, 194, 213, 5, 64, 150, 233, 146, 241, 47, 164, 90, 6, 184, 239, 140, 98, 8, 162]
theorem geo_eq : dI (vE 8 1 ++ List.replicate (512 - 13) 0) = geoE := shaL 9 (by kernel_rfl) (by kernel_rfl)
theorem geo_ne : ¬ dI (vE 8 1 ++ List.replicate (512 - 13) 0) = List.replicate 32 0 := by rw [geo_eq]; decide
def tgI : B8 := [227, 147, 241, 218, 148, 246, 189, 150, 250, 148, 119, 231, 229, 64, 48, 51, 196, 24, 67, 122, 97, 143, 152, 230, 135, 162, 217, 143, 145, 162, 85, 165]
def tgE : B8 := [49, 188, 77, 58, 4, 54, 121, 98, 164, 181, 240, 69, 159, 75, 147, 208, 227, 187, 37, 71, 130, 234, 162, 87, 83, 74, 79, 115, 86, 135, 179, 214]
theorem tg_eq : hmF aHx (aA5 ++ qG) = tgE := hmL (i := tgI) 2 (by kernel_rfl) (by kernel_rfl) (by kernel_rfl) (by kernel_rfl)
def lfI : B8 := [89, 146, 246, 194, 119, 170, 94, 106, 170, 33, 34, 199, 65, 210, 190, 193, 31, 136, 102, 122, 121, 233, 235, 52, 38, 228, 82, 172, 12, 25, 235, 196]
def lfE : B8 := [254, 22, 216, 108, 107, 81, 46, 81, 35, 155, 147, 153, 151, 65, 235, 91, 195, 3, 54, 136, 155, 161, 188, 38, 150, 177, 123, 167, 64, 27, 146, 175]
theorem lf_eq : hmF tgE (oW ++ u4B 2 ++ zB 512) = lfE := hmL (i := lfI) 10 (by kernel_rfl) (by kernel_rfl) (by kernel_rfl) (by kernel_rfl)
theorem aHq : ¬ bY (fH aHx qG) 2 (zB 512) = List.replicate 32 0 := by rw [fH, tg_eq, bY, lf_eq]; decide
theorem aI0 (m q n : Nat) (h : q + n ≤ m) : ((zB m).drop q).take n = zB n := by
 rw [List.drop_replicate, List.take_replicate, Nat.min_eq_left (by omega)]
theorem lH : AC Tryz.prog 5 [] 0 [gR] ⟨.bool true, [], []⟩ := by
 have hb := aDk
 have hn := aIy 8 aHx (by decide) (by decide) rfl geo_ne
 have h1 := cK (fH aHx t7) (aW _ _)
 have h2 := cK (fH aHx t6) (aW _ _)
 have ht := aW aHx qG
 have hne := aHq
 generalize fH aHx qG = tg at hn ht hne
 generalize bO (fH aHx t7) = k1 at hn h1
 generalize bO (fH aHx t6) = k2 at hn h2
 have hp := aBf 8 tg k1 k2 32768 16384 none 16384 none [] 0 (zB 16384) 0 (zB 512) 0 none h1 h2 (by decide) (by decide) ht (by simp) (by simp) (by decide) (by decide) (by simp) (by simp) (by decide) (by decide) (by decide) (by decide)
 have hQl := pI (k1 := k1) k2 (bs := zB 512) (o := 0) 0 (by simp)
 have hop := aGB (k1 := k1) k2 (bs := zB 512) (o := 0) 0 (by simp)
 rw [aI0 512 0 512 (by decide)] at hop
 generalize zT k1 k2 (zB 512) 0 0 = Q at hp hQl hop
 have hS1 : ((jN (zB 16384) Q (512 * (8 + (0 : BitVec 32).toNat))).drop (512 * (8 + (0 : BitVec 32).toNat))).take 512 = Q := by
  have := aJi (S := zB 16384) (B := Q) (p := 512 * (8 + (0 : BitVec 32).toNat)) (by rw [hQl]; simp)
  rw [hQl] at this; exact this
 have hS2 : ((jN (zB 16384) Q (512 * (8 + (0 : BitVec 32).toNat))).drop (512 * (8 + ((2 : BitVec 32) - 1).toNat))).take 512 = zB 512 := by
  rw [aHs (by rw [hQl]; simp) (by simp) (.inr (by rw [hQl]; decide)), aI0 _ _ _ (by decide)]
 have hSl : (jN (zB 16384) Q (512 * (8 + (0 : BitVec 32).toNat))).length = 16384 := by rw [gL (by rw [hQl]; simp)]; simp
 generalize jN (zB 16384) Q (512 * (8 + (0 : BitVec 32).toNat)) = S' at hp hS1 hS2 hSl
 have hyl := aR tg (0 + 1) Q
 have hd1 := aHL 8 tg k1 k2 32768 16384 none 16384 none [loF S' (8 + (0 : BitVec 32).toNat)] 1 S' 1 (bY tg (0 + 1) Q) h1 h2 (by decide) (by decide) ht hyl hSl (by decide) (by decide) (by decide) (by decide) (by rw [show (1 : BitVec 32) - 1 = 0 from rfl, hS1]; rfl)
 rw [show (1 : BitVec 32) - 1 = 0 from rfl, hS1, hop] at hd1
 have hd2 := aFX 8 tg k1 k2 32768 16384 none 16384 none [loF S' (8 + (0 : BitVec 32).toNat)] 1 S' 2 (zB 32) (by decide) (by decide) ht (by simp) hSl (by decide) (by decide) (by decide) (by decide) (by rw [hS2]; exact hne)
 generalize bY tg (0 + 1) Q = y at hp hd1 hyl
 refine acA tab mix Tryz.func5 {} ?_
 refine gob ?_
 refine aA hb [] ?_
 refine aA hn [0] ?_
 refine aA hp [0, 1, 2, 2, 3, 4, 5, 6, 7] ?_
 refine aA hd1 [0, 1, 2, 8, 3, 4, 5, 6] ?_
 refine aA hd2 [0, 1, 2, 8, 3, 4, 5, 6] ?_
 refine aI []
theorem aHI (c p : Nat) (K : B8) (hc : 1 ≤ c) (hc2 : c ≤ 64) (hp : 1 ≤ p) (hp2 : p ≤ 2) (hK : K.length = 32) (hne : ¬ dI (vE c p ++ List.replicate (512 - 13) 0) = List.replicate 32 0) :
  AC Tryz.prog 9 [.ptr 0 [], aCZ c p, .u8s K] 1 [gR]
   ⟨.ptr 1 [], [], [(tSp, .node [.ptr 0 [], aCZ c p, .ptr 2 [], .u8s (fH K qG)]), (tX, .node [.ptr 3 [], .ptr 4 []]), (tC, cH (bO (fH K t7))), (tC, cH (bO (fH K t6)))]⟩ := by
 have hs := aFG c p hc hc2 hp hp2
 have l1 := kY K t7 hK (by decide) (by decide)
 have l2 := kY K t6 hK (by decide) (by decide)
 have l3 := kY K qG hK (by decide) (by decide)
 have y1 := aW K t7
 have y2 := aW K t6
 have y3 := aW K qG
 generalize fH K t7 = z1 at l1 y1 ⊢
 generalize fH K t6 = z2 at l2 y2 ⊢
 generalize fH K qG = z3 at l3 y3 ⊢
 have hx := aEw z1 z2 y1 y2
 generalize bO z1 = k1 at hx ⊢
 generalize bO z2 = k2 at hx ⊢
 have hy := bI (vE c p ++ List.replicate (512 - 13) 0)
 generalize dI (vE c p ++ List.replicate (512 - 13) 0) = sm at hs hne hy
 refine acA tab mix Tryz.func9 {} ?_
 refine gob ?_
 refine aA hs [] ?_
 refine aA l1 [] ?_
 refine aA l2 [] ?_
 refine aA hx [] ?_
 refine aA l3 [] ?_
 refine aI [0, 6, 3, 4, 5]
abbrev iO : D := .node (List.replicate 8 (.node [.u32 0, .u8s (List.replicate 32 0)]))
theorem con_eq {a b c z : B8} {n : Nat} (ha : a.length = n) (hb : b.length = 4) (hc : c.length = 32) :
  List.take (0 + n + 4) (List.take (0 + n) (List.take 0 z ++ List.take n a) ++ List.take 4 b) ++ List.take 32 c = a ++ b ++ c := by
 rw [List.take_zero, List.nil_append, List.take_of_length_le (l := a) (by omega), List.take_of_length_le (l := a) (by omega), List.take_of_length_le (l := b) (by omega), List.take_of_length_le (l := c) (by omega), List.take_of_length_le (by rw [List.length_append]; omega)]
theorem aKB {b c z : B8} (hb : b.length = 4) (hc : c.length = 32) :
  List.take (0 + 0 + 4) (List.take (0 + 0) (List.take 0 z ++ []) ++ List.take 4 b) ++ List.take 32 c = b ++ c := by
 rw [List.take_zero, List.nil_append, List.take_of_length_le (l := b) (i := 4) (by omega), List.take_of_length_le (l := b) (by omega), List.take_of_length_le (l := c) (by omega)]
theorem eX (a b c : B8) (n : Nat) (ha : a.length = n) (hb : b.length = 4) (hc : c.length = 32) (hn : n ≤ 1000000) :
  AC Tryz.prog 92 [.slice 0 [] 0 3 (some 3)] 4 [(0, some ⟨.row .cell, .node [.slice 1 [] 0 n none, .slice 2 [] 0 4 none, .slice 3 [] 0 32 (some 32)], true⟩),
   (1, some ⟨.row .cell, .u8s a, false⟩), (2, some ⟨.row .cell, .u8s b, false⟩), (3, some ⟨.row .cell, .u8s c, false⟩)]
   ⟨.slice 4 [] 0 (0 + n + 4 + 32) none, [], [(.row .cell, .u8s (a ++ b ++ c))]⟩ := by
 refine acA tab mix Tryz.func92 ⟨[], [3, 11]⟩ ?_
 refine go ?_
 refine oI 4 ?_
 refine gob ?_
 refine bG (tD (0 + (n : Int) + 4 + 32) (by omega) (by omega)) [] ?_
 refine oI 4 ?_
 refine gob ?_
 refine ⟨0, ?_⟩
 refine gob ?_
 refine ⟨0, ?_⟩
 refine gob ?_
 refine ⟨0, ?_⟩
 refine gob ?_
 refine aI [0, 1, 2, 3, 7] (h3 := ?_)
 (repeat' (first | exact trivial | refine And.intro ⟨_, rfl, rfl, ?_, id⟩ ?_ | refine And.intro ⟨_, rfl, rfl, ?_, fun _ => rfl⟩ ?_)) <;> first | rfl | exact congrArg D.u8s (con_eq ha hb hc)
theorem aC7 (b c : B8) (hb : b.length = 4) (hc : c.length = 32) :
  AC Tryz.prog 92 [.slice 0 [] 0 3 (some 3)] 3 [(0, some ⟨.row .cell, .node [.nilslice, .slice 1 [] 0 4 none, .slice 2 [] 0 32 (some 32)], true⟩),
   (1, some ⟨.row .cell, .u8s b, false⟩), (2, some ⟨.row .cell, .u8s c, false⟩)]
   ⟨.slice 3 [] 0 36 none, [], [(.row .cell, .u8s (b ++ c))]⟩ := by
 refine acA tab mix Tryz.func92 ⟨[], [3, 11]⟩ ?_
 refine go ?_
 refine oI 4 ?_
 refine gob ?_
 refine bG (tD (0 + 0 + 4 + 32) (by omega) (by omega)) [] ?_
 refine oI 4 ?_
 refine gob ?_
 refine ⟨0, ?_⟩
 refine gob ?_
 refine ⟨0, ?_⟩
 refine gob ?_
 refine ⟨0, ?_⟩
 refine gob ?_
 refine aI [0, 1, 2, 6] (h3 := ?_)
 (repeat' (first | exact trivial | refine And.intro ⟨_, rfl, rfl, ?_, id⟩ ?_ | refine And.intro ⟨_, rfl, rfl, ?_, fun _ => rfl⟩ ?_)) <;> first | rfl | exact congrArg D.u8s (aKB hb hc)
def dK (a : BitVec 32) (s : B8) : B8 := u4B a ++ s
theorem aE {a : BitVec 32} {s : B8} (h : s.length = 32) : (dK a s).length = 36 := by rw [dK, List.length_append, u4B, aZ, h]
abbrev eR (a0 a1 a2 a3 a4 a5 a6 a7 : BitVec 32) (s0 s1 s2 s3 s4 s5 s6 s7 : B8) : D := .node [aB a0 s0, aB a1 s1, aB a2 s2, aB a3 s3, aB a4 s4, aB a5 s5, aB a6 s6, aB a7 s7]
def bA (a0 a1 a2 a3 a4 a5 a6 a7 : BitVec 32) (s0 s1 s2 s3 s4 s5 s6 s7 : B8) : B8 := dK a0 s0 ++ dK a1 s1 ++ dK a2 s2 ++ dK a3 s3 ++ dK a4 s4 ++ dK a5 s5 ++ dK a6 s6 ++ dK a7 s7
set_option maxHeartbeats 4000000 in
theorem oO (a0 a1 a2 a3 a4 a5 a6 a7 : BitVec 32) (s0 s1 s2 s3 s4 s5 s6 s7 : B8) (h0 : s0.length = 32) (h1 : s1.length = 32) (h2 : s2.length = 32) (h3 : s3.length = 32) (h4 : s4.length = 32) (h5 : s5.length = 32) (h6 : s6.length = 32) (h7 : s7.length = 32) :
  AC Tryz.prog 50 [eR a0 a1 a2 a3 a4 a5 a6 a7 s0 s1 s2 s3 s4 s5 s6 s7] 0 [] ⟨.slice 0 [] 0 288 none, [], [(.row .cell, .u8s (bA a0 a1 a2 a3 a4 a5 a6 a7 s0 s1 s2 s3 s4 s5 s6 s7))]⟩ := by
 have p0 := fA a0
 have l0 := aZ (a0.setWidth 64) 4
 have c0 := aC7 (nbF (a0.setWidth 64) 4) s0 l0 h0
 have y0 : (nbF (a0.setWidth 64) 4 ++ s0).length = 36 := by rw [List.length_append, l0, h0]
 have p1 := fA a1
 have l1 := aZ (a1.setWidth 64) 4
 have c1 := eX (nbF (a0.setWidth 64) 4 ++ s0) (nbF (a1.setWidth 64) 4) s1 36 y0 l1 h1 (by decide)
 have y1 : ((nbF (a0.setWidth 64) 4 ++ s0) ++ nbF (a1.setWidth 64) 4 ++ s1).length = 72 := by rw [List.length_append, List.length_append, y0, l1, h1]
 have p2 := fA a2
 have l2 := aZ (a2.setWidth 64) 4
 have c2 := eX ((nbF (a0.setWidth 64) 4 ++ s0) ++ nbF (a1.setWidth 64) 4 ++ s1) (nbF (a2.setWidth 64) 4) s2 72 y1 l2 h2 (by decide)
 have y2 : (((nbF (a0.setWidth 64) 4 ++ s0) ++ nbF (a1.setWidth 64) 4 ++ s1) ++ nbF (a2.setWidth 64) 4 ++ s2).length = 108 := by rw [List.length_append, List.length_append, y1, l2, h2]
 have p3 := fA a3
 have l3 := aZ (a3.setWidth 64) 4
 have c3 := eX (((nbF (a0.setWidth 64) 4 ++ s0) ++ nbF (a1.setWidth 64) 4 ++ s1) ++ nbF (a2.setWidth 64) 4 ++ s2) (nbF (a3.setWidth 64) 4) s3 108 y2 l3 h3 (by decide)
 have y3 : ((((nbF (a0.setWidth 64) 4 ++ s0) ++ nbF (a1.setWidth 64) 4 ++ s1) ++ nbF (a2.setWidth 64) 4 ++ s2) ++ nbF (a3.setWidth 64) 4 ++ s3).length = 144 := by rw [List.length_append, List.length_append, y2, l3, h3]
 have p4 := fA a4
 have l4 := aZ (a4.setWidth 64) 4
 have c4 := eX ((((nbF (a0.setWidth 64) 4 ++ s0) ++ nbF (a1.setWidth 64) 4 ++ s1) ++ nbF (a2.setWidth 64) 4 ++ s2) ++ nbF (a3.setWidth 64) 4 ++ s3) (nbF (a4.setWidth 64) 4) s4 144 y3 l4 h4 (by decide)
 have y4 : (((((nbF (a0.setWidth 64) 4 ++ s0) ++ nbF (a1.setWidth 64) 4 ++ s1) ++ nbF (a2.setWidth 64) 4 ++ s2) ++ nbF (a3.setWidth 64) 4 ++ s3) ++ nbF (a4.setWidth 64) 4 ++ s4).length = 180 := by rw [List.length_append, List.length_append, y3, l4, h4]
 have p5 := fA a5
 have l5 := aZ (a5.setWidth 64) 4
 have c5 := eX (((((nbF (a0.setWidth 64) 4 ++ s0) ++ nbF (a1.setWidth 64) 4 ++ s1) ++ nbF (a2.setWidth 64) 4 ++ s2) ++ nbF (a3.setWidth 64) 4 ++ s3) ++ nbF (a4.setWidth 64) 4 ++ s4) (nbF (a5.setWidth 64) 4) s5 180 y4 l5 h5 (by decide)
 have y5 : ((((((nbF (a0.setWidth 64) 4 ++ s0) ++ nbF (a1.setWidth 64) 4 ++ s1) ++ nbF (a2.setWidth 64) 4 ++ s2) ++ nbF (a3.setWidth 64) 4 ++ s3) ++ nbF (a4.setWidth 64) 4 ++ s4) ++ nbF (a5.setWidth 64) 4 ++ s5).length = 216 := by rw [List.length_append, List.length_append, y4, l5, h5]
 have p6 := fA a6
 have l6 := aZ (a6.setWidth 64) 4
 have c6 := eX ((((((nbF (a0.setWidth 64) 4 ++ s0) ++ nbF (a1.setWidth 64) 4 ++ s1) ++ nbF (a2.setWidth 64) 4 ++ s2) ++ nbF (a3.setWidth 64) 4 ++ s3) ++ nbF (a4.setWidth 64) 4 ++ s4) ++ nbF (a5.setWidth 64) 4 ++ s5) (nbF (a6.setWidth 64) 4) s6 216 y5 l6 h6 (by decide)
 have y6 : (((((((nbF (a0.setWidth 64) 4 ++ s0) ++ nbF (a1.setWidth 64) 4 ++ s1) ++ nbF (a2.setWidth 64) 4 ++ s2) ++ nbF (a3.setWidth 64) 4 ++ s3) ++ nbF (a4.setWidth 64) 4 ++ s4) ++ nbF (a5.setWidth 64) 4 ++ s5) ++ nbF (a6.setWidth 64) 4 ++ s6).length = 252 := by rw [List.length_append, List.length_append, y5, l6, h6]
 have p7 := fA a7
 have l7 := aZ (a7.setWidth 64) 4
 have c7 := eX (((((((nbF (a0.setWidth 64) 4 ++ s0) ++ nbF (a1.setWidth 64) 4 ++ s1) ++ nbF (a2.setWidth 64) 4 ++ s2) ++ nbF (a3.setWidth 64) 4 ++ s3) ++ nbF (a4.setWidth 64) 4 ++ s4) ++ nbF (a5.setWidth 64) 4 ++ s5) ++ nbF (a6.setWidth 64) 4 ++ s6) (nbF (a7.setWidth 64) 4) s7 252 y6 l7 h7 (by decide)
 have y7 : ((((((((nbF (a0.setWidth 64) 4 ++ s0) ++ nbF (a1.setWidth 64) 4 ++ s1) ++ nbF (a2.setWidth 64) 4 ++ s2) ++ nbF (a3.setWidth 64) 4 ++ s3) ++ nbF (a4.setWidth 64) 4 ++ s4) ++ nbF (a5.setWidth 64) 4 ++ s5) ++ nbF (a6.setWidth 64) 4 ++ s6) ++ nbF (a7.setWidth 64) 4 ++ s7).length = 288 := by rw [List.length_append, List.length_append, y6, l7, h7]
 have eN : bA a0 a1 a2 a3 a4 a5 a6 a7 s0 s1 s2 s3 s4 s5 s6 s7 = ((((((((nbF (a0.setWidth 64) 4 ++ s0) ++ nbF (a1.setWidth 64) 4 ++ s1) ++ nbF (a2.setWidth 64) 4 ++ s2) ++ nbF (a3.setWidth 64) 4 ++ s3) ++ nbF (a4.setWidth 64) 4 ++ s4) ++ nbF (a5.setWidth 64) 4 ++ s5) ++ nbF (a6.setWidth 64) 4 ++ s6) ++ nbF (a7.setWidth 64) 4 ++ s7) := by simp only [bA, dK, u4B, List.append_assoc]
 rw [eN]; clear eN
 generalize (nbF (a0.setWidth 64) 4 ++ s0) = Y0 at *
 generalize (Y0 ++ nbF (a1.setWidth 64) 4 ++ s1) = Y1 at *
 generalize (Y1 ++ nbF (a2.setWidth 64) 4 ++ s2) = Y2 at *
 generalize (Y2 ++ nbF (a3.setWidth 64) 4 ++ s3) = Y3 at *
 generalize (Y3 ++ nbF (a4.setWidth 64) 4 ++ s4) = Y4 at *
 generalize (Y4 ++ nbF (a5.setWidth 64) 4 ++ s5) = Y5 at *
 generalize (Y5 ++ nbF (a6.setWidth 64) 4 ++ s6) = Y6 at *
 generalize (Y6 ++ nbF (a7.setWidth 64) 4 ++ s7) = Y7 at *
 generalize nbF (a0.setWidth 64) 4 = z0 at *
 generalize nbF (a1.setWidth 64) 4 = z1 at *
 generalize nbF (a2.setWidth 64) 4 = z2 at *
 generalize nbF (a3.setWidth 64) 4 = z3 at *
 generalize nbF (a4.setWidth 64) 4 = z4 at *
 generalize nbF (a5.setWidth 64) 4 = z5 at *
 generalize nbF (a6.setWidth 64) 4 = z6 at *
 generalize nbF (a7.setWidth 64) 4 = z7 at *
 refine acA tab mix Tryz.func50 ⟨[], [3]⟩ ?_
 refine gob ?_
 refine oI 9 ?_
 refine gob ?_
 refine aA p0 [] ?_
 refine aA (c0.arrAt 2 32 [.fld 1] gU (aB a0 s0)) [3, 2, 1] ?_
 refine aA p1 [] ?_
 refine aA (c1.arrAt 3 32 [.fld 1] gU (aB a1 s1)) [7, 4, 6, 5] ?_
 refine aA p2 [] ?_
 refine aA (c2.arrAt 3 32 [.fld 1] gU (aB a2 s2)) [11, 8, 10, 9] ?_
 refine aA p3 [] ?_
 refine aA (c3.arrAt 3 32 [.fld 1] gU (aB a3 s3)) [15, 12, 14, 13] ?_
 refine aA p4 [] ?_
 refine aA (c4.arrAt 3 32 [.fld 1] gU (aB a4 s4)) [19, 16, 18, 17] ?_
 refine aA p5 [] ?_
 refine aA (c5.arrAt 3 32 [.fld 1] gU (aB a5 s5)) [23, 20, 22, 21] ?_
 refine aA p6 [] ?_
 refine aA (c6.arrAt 3 32 [.fld 1] gU (aB a6 s6)) [27, 24, 26, 25] ?_
 refine aA p7 [] ?_
 refine aA (c7.arrAt 3 32 [.fld 1] gU (aB a7 s7)) [31, 28, 30, 29] ?_
 refine aI [32]
theorem dF {a0 a1 a2 a3 a4 a5 a6 a7 : BitVec 32} {s0 s1 s2 s3 s4 s5 s6 s7 : B8} (h0 : s0.length = 32) (h1 : s1.length = 32) (h2 : s2.length = 32) (h3 : s3.length = 32) (h4 : s4.length = 32) (h5 : s5.length = 32) (h6 : s6.length = 32) (h7 : s7.length = 32) : (bA a0 a1 a2 a3 a4 a5 a6 a7 s0 s1 s2 s3 s4 s5 s6 s7).length = 288 := by
 simp only [bA, List.length_append, aE h0, aE h1, aE h2, aE h3, aE h4, aE h5, aE h6, aE h7]

def aV (S B : B8) (p : Nat) : B8 := jN (S ++ List.replicate (p + B.length - S.length) 0) B p
theorem aU {S B : B8} {p : Nat} : (aV S B p).length = max S.length (p + B.length) := by
 unfold aV; rw [gL (by rw [List.length_append, List.length_replicate]; omega), List.length_append, List.length_replicate]; omega
theorem mI {S B : B8} {p : Nat} (h : p + B.length ≤ S.length) : aV S B p = jN S B p := by
 unfold aV; rw [show p + B.length - S.length = 0 by omega, List.replicate_zero, List.append_nil]
theorem aJj {S B : B8} {p o k N : Nat} (hN : S.length = N) (h : N < p + k) (hB : o + k ≤ B.length) :
  List.take (0 + p) (List.take N (List.drop 0 S) ++ List.replicate ((p : Int) + (k : Int) - (N : Int)).toNat 0) ++
    List.take (k.min (((N + ((p : Int) + (k : Int) - (N : Int)).toNat : Nat) : Int).toNat - p)) (List.drop o B) ++
   List.drop (0 + p + k.min (((N + ((p : Int) + (k : Int) - (N : Int)).toNat : Nat) : Int).toNat - p)) (List.take N (List.drop 0 S) ++ List.replicate ((p : Int) + (k : Int) - (N : Int)).toNat 0) =
  aV S (List.take k (List.drop o B)) p := by
 have hk : (List.take k (List.drop o B)).length = k := by rw [List.length_take, List.length_drop]; omega
 have e1 : ((p : Int) + (k : Int) - (N : Int)).toNat = p + k - N := by omega
 have e2 : k.min (((N + (p + k - N) : Nat) : Int).toNat - p) = k := by
  rw [Int.toNat_natCast, show N + (p + k - N) - p = k by omega]; exact Nat.min_self k
 unfold aV jN
 rw [e1, e2, hk, List.drop_zero, List.take_of_length_le (l := S) (by omega), hN, Nat.zero_add]
section
variable (S B : B8) (p o k N : Nat) (cap cap2 : Option Nat) (hN : S.length = N) (h : N < p + k) (hB : o + k ≤ B.length) (h0 : 0 < k) (hS : p + k < 70368744177664)
include S B p o k N cap cap2 hN h hB h0 hS
theorem aHr :
  AC Tryz.prog 58 [.slice 0 [] 0 N cap, .i64 p, .slice 1 [] o k cap2] 2 [(0, some ⟨.row .cell, .u8s S, true⟩), (1, some ⟨.row .cell, .u8s B, false⟩)]
   ⟨.slice 2 [] 0 (N + ((p : Int) + (k : Int) - (N : Int)).toNat) none, [(0, none)], [(.row .cell, .u8s (aV S ((B.drop o).take k) p))]⟩ := by
 refine acA tab mix Tryz.func58 {} ?_
 refine gob ?_
 refine ⟨0, ?_⟩
 refine gob ?_
 refine aI [0, 1, 2] (h3 := ?_)
 (repeat' (first | exact trivial | refine And.intro ⟨_, rfl, rfl, ?_, id⟩ ?_ | refine And.intro ⟨_, rfl, rfl, ?_, fun _ => rfl⟩ ?_))
 ·exact congrArg D.u8s (aJj hN h hB)
 ·rfl
theorem oX :
  AC Tryz.prog 58 [.slice 0 [] 0 N cap, .i64 p, .slice 1 [] o k cap2] 2 [(0, some ⟨.row .cell, .u8s S, true⟩), (1, some ⟨.row .cell, .u8s B, false⟩)]
   ⟨.slice 2 [] 0 (p + k) none, [(0, none)], [(.row .cell, .u8s (aV S ((B.drop o).take k) p))]⟩ := by
 have := aHr S B p o k N cap cap2 hN h hB h0 hS
 rw [show N + ((p : Int) + (k : Int) - (N : Int)).toNat = p + k by omega] at this
 exact this
end
theorem nU (s : D) (p : Int) (hs : ∃ (k : Nat) (c : Option Nat), s = .slice 0 [] 0 k c) (b : D) (hb : b = .nilslice ∨ ∃ (o : Nat) (c : Option Nat), b = .slice 1 [] o 0 c) :
  AC Tryz.prog 58 [s, .i64 p, b] 2 [] ⟨s, [], []⟩ := by
 obtain ⟨k, c, rfl⟩ := hs
 rcases hb with rfl | ⟨o, c2, rfl⟩
 ·refine acA tab mix Tryz.func58 {} ?_
  refine gob ?_
  refine aI [0, 1]
 ·refine acA tab mix Tryz.func58 {} ?_
  refine gob ?_
  refine aI [0, 1]
end Go.Proofs.YtodkhgofmgaafaaGreatDoor.Av
