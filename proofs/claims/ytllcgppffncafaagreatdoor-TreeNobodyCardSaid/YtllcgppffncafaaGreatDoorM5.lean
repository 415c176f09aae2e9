import Derived.Test.YtllcgppffncafaaGreatDoorM4
import Derived.Test.YtllcgppffncafaaGreatDoorM3
import Derived.RangeFuncBox
import Derived.RangeFuncLeaves
import Derived.Shelf.Abstract
import Derived.WalkKit
import Derived.OwnWalkIn
import Derived.TacticsInMore
import Derived.LoopNIn
import Derived.LoopIn
namespace Go.Proofs.YtllcgppffncafaaGreatDoor.Av
open Go
set_option linter.all false
set_option maxRecDepth 3000
def hmF (key m : B8) : B8 := j0 (opF key ++ j0 (ipF key ++ m))
theorem qH (key m : B8) : (hmF key m).length = 32 := bE _
theorem ip0 {N : B8} (h : N.length = 64) : (N.drop 64).take (N.length % 64) = reF N := by rw [reF, h, List.drop_of_length_le (by omega)]; rfl
theorem aFu (ks ss us : B8) (p k q l r n : Nat) (c d f : Option Nat) (ha : p + k ≤ ks.length) (hb : q + l ≤ ss.length) (hc : r + n ≤ us.length) (hk : k ≤ 64) (hl0 : 0 < l) (hl : l ≤ 35184372088832) (hn0 : 0 < n) (hn : n ≤ 35184372088832) :
  AC Tryz.prog 59 [.slice 0 [] p k c, .slice 1 [] 0 2 (some 2)] 4 [(0, some ⟨.row .cell, .u8s ks, false⟩), (1, some ⟨.row .cell, .node [.slice 2 [] q l d, .slice 3 [] r n f], true⟩), (2, some ⟨.row .cell, .u8s ss, false⟩), (3, some ⟨.row .cell, .u8s us, false⟩), gR]
   ⟨.u8s (hmF ((ks.drop p).take k) ((ss.drop q).take l ++ (us.drop r).take n)), [], []⟩ := by
 have hkl : ((ks.drop p).take k).length = k := by rw [List.length_take, List.length_drop]; omega
 have hbl : ((ss.drop q).take l).length = l := by rw [List.length_take, List.length_drop]; omega
 have hul : ((us.drop r).take n).length = n := by rw [List.length_take, List.length_drop]; omega
 have hn := aC5 ks p k c ha hk
 have e : hmF ((ks.drop p).take k) ((ss.drop q).take l ++ (us.drop r).take n) = j0 (opF ((ks.drop p).take k) ++ j0 (ipF ((ks.drop p).take k) ++ ((ss.drop q).take l ++ (us.drop r).take n))) := rfl
 rw [← List.append_assoc] at e
 have hO := qA ((ks.drop p).take k)
 have hN := qG (key := (ks.drop p).take k) (by omega)
 generalize hmF ((ks.drop p).take k) ((ss.drop q).take l ++ (us.drop r).take n) = y at e ⊢
 generalize opF ((ks.drop p).take k) = O at hn e hO
 generalize ipF ((ks.drop p).take k) = N at hn e hN
 have hw := eX O N N ss 64 q l d (ip0 hN) (by rw [hN]; decide) hb hl0 hl (by omega)
 have hr := dO N ((ss.drop q).take l) hbl
 have hm := dN N ((ss.drop q).take l) hbl
 rw [hN] at hr hm
 generalize (ss.drop q).take l = b at hw hr hm e hbl
 have hNl : (N ++ b).length = 64 + l := by rw [List.length_append, hN, hbl]
 have hw2 := eX O (N ++ b) (reF N ++ b) us (64 * ((64 % 64 + l) / 64)) r n f (by rw [hNl]; exact hr) (by rw [hNl]; exact hm) hc hn0 (by omega) (by omega)
 have hr2 := dO (N ++ b) ((us.drop r).take n) hul
 have hm2 := dN (N ++ b) ((us.drop r).take n) hul
 rw [hNl] at hr2 hm2
 generalize (us.drop r).take n = u at hw2 hr2 hm2 e hul
 have hNl2 : (N ++ b ++ u).length = 64 + l + n := by rw [List.length_append, hNl, hul]
 have hs := uJ O (N ++ b ++ u) (reF (N ++ b) ++ u) (64 * (((64 + l) % 64 + n) / 64)) (by rw [hNl2]; exact hr2) (by rw [hNl2]; exact hm2) (by omega) hO
 rw [← e, hNl2] at hs
 rw [hNl] at hw2
 rw [hN] at hw
 have hy : y.length = 32 := by rw [e]; exact bE _
 refine acA tab mix Tryz.func59 ⟨[], [3]⟩ ?_
 refine go ?_
 refine cM hn [0] ?_
 refine o0 3 ?_
 refine gob ?_
 refine aB hw [5, 6, 2, 7] ?_
 refine aB hw2 [5, 6, 3, 8] ?_
 refine cM hs [5, 6, 9] ?_
 refine aF [0, 1, 2, 3]
def apI (a b : B8) : Nat → BitVec 8
 |0 => 0
 |i + 1 => apI a b i ||| (a.getD i 0 ^^^ b.getD i 0)
theorem aFc {x y : BitVec 8} : x ||| y = 0 ↔ x = 0 ∧ y = 0 := by
 refine ⟨fun h => ⟨?_, ?_⟩, fun ⟨h, h'⟩ => by rw [h, h']; rfl⟩
 ·refine BitVec.eq_of_getLsbD_eq fun i _ => ?_
  have := congrArg (fun z => BitVec.getLsbD z i) h
  simp only [BitVec.getLsbD_or] at this
  revert this; cases x.getLsbD i <;> simp
 ·refine BitVec.eq_of_getLsbD_eq fun i _ => ?_
  have := congrArg (fun z => BitVec.getLsbD z i) h
  simp only [BitVec.getLsbD_or] at this
  revert this; cases y.getLsbD i <;> simp
theorem xor_zero {x y : BitVec 8} : x ^^^ y = 0 ↔ x = y := by
 refine ⟨fun h => ?_, fun h => by rw [h, BitVec.xor_self]; rfl⟩
 refine BitVec.eq_of_getLsbD_eq fun i _ => ?_
 have := congrArg (fun z => BitVec.getLsbD z i) h
 simp only [BitVec.getLsbD_xor] at this
 revert this; cases x.getLsbD i <;> cases y.getLsbD i <;> simp
theorem sH (a b : B8) : ∀ n, apI a b n = 0 ↔ ∀ i, i < n → a.getD i 0 = b.getD i 0
 |0 => ⟨fun _ i h => absurd h (Nat.not_lt_zero i), fun _ => rfl⟩
 |n + 1 => by
  rw [apI, aFc, sH a b n, xor_zero]
  refine ⟨fun ⟨h1, h2⟩ i hi => ?_, fun h => ⟨fun i hi => h i (by omega), h n (by omega)⟩⟩
  rcases Nat.lt_or_ge i n with h | h
  ·exact h1 i h
  ·obtain rfl : i = n := by omega
   exact h2
theorem aCe {a b : B8} (hl : a.length = b.length) (h : ∀ i, i < a.length → a.getD i 0 = b.getD i 0) : a = b := by
 refine List.ext_getElem hl fun i h1 h2 => ?_
 have := h i h1
 simpa [List.getD_eq_getElem?_getD, List.getElem?_eq_getElem h1, List.getElem?_eq_getElem h2] using this
theorem mQ (ss us : B8) (n : Nat) (c d : Option Nat) (hs : ss.length = n) (hu : us.length = n) (hn : n ≤ 1000000) :
  AC Tryz.prog 95 [.slice 0 [] 0 n c, .slice 1 [] 0 n d] 2 [(0, some ⟨.row .cell, .u8s ss, false⟩), (1, some ⟨.row .cell, .u8s us, false⟩)] ⟨.bool (decide (ss = us)), [], []⟩ := by
 have hE : decide (ss = us) = decide (apI ss us n = 0) := by
  refine decide_eq_decide.2 ⟨fun h => (sH ss us n).2 fun i _ => by rw [h], fun h => aCe (by omega) fun i hi => (sH ss us n).1 h i (by omega)⟩
 rw [hE]
 refine acA tab mix Tryz.func95 {} ?_
 refine go ?_
 refine Br.no (by simp) ?_
 refine go ?_
 refine aT Nat (fun i => [(0, .slice 0 [] 0 n c), (1, .slice 1 [] 0 n d), (5, .u8 (apI ss us i)), (13, .i64 n), (14, .i64 i)]) (fun i => [(0, some ⟨.row .cell, .u8s ss, false⟩), (1, some ⟨.row .cell, .u8s us, false⟩)]) 2 (fun i => i ≤ n) (fun i => n - i) 0 [0, 1] (Nat.zero_le _) viewA ?_
 intro i hi
 refine go ?_
 refine Br.split (fun h => ?_) (fun h => ?_)
 ·have hi : i < n := by have := of_decide_eq_true h; omega
  refine go ?_
  refine aQ (i + 1) [0, 1] viewA
 ·obtain rfl : i = n := by have := of_decide_eq_false h; omega
  refine go ?_
  refine aF [0, 1]
def aFb : B8 := [114, 101, 108, 105, 113, 117, 97, 114, 121, 32]
def sN (key l : B8) : B8 := hmF key (aFb ++ l)
theorem cY (key l : B8) : (sN key l).length = 32 := qH _ _
theorem rR (key l : B8) (hk : key.length = 32) (h0 : 0 < l.length) (hl : l.length ≤ 100) : AC Tryz.prog 31 [.u8s key, .str l] 0 [gR] ⟨.u8s (sN key l), [], []⟩ := by
 have ho := aFu key aFb l 0 32 0 10 0 l.length (some 32) (some 10) none (by omega) (by decide) (by omega) (by decide) (by decide) (by decide) h0 (by omega)
 have e : sN key l = hmF key (aFb ++ l) := rfl
 rw [List.drop_zero, List.drop_zero, List.drop_zero, List.take_of_length_le (by omega), List.take_of_length_le (by decide), List.take_of_length_le (Nat.le_refl _), ← e] at ho
 have hy := cY key l
 generalize sN key l = y at ho hy ⊢
 refine acA tab mix Tryz.func31 {} ?_
 refine go ?_
 refine cM (ho.arr 0 32) [0, 4, 2, 3] ?_
 refine aF []


instance (ks : List B8) : Pure (bP ks) := ⟨fun s => aC s ks⟩
structure Slot where
 used : Bool
 turns : BitVec 16
 salt : B8
 sealed : B8
 check : B8
abbrev wT (s : Slot) : D := .node [.bool s.used, .u16 s.turns, .u8s s.salt, .u8s s.sealed, .u8s s.check]
abbrev aFA : Ty := .st [.cell, .cell, .arr 16 .cell, .arr 32 .cell, .arr 32 .cell]
abbrev tTab : Ty := .arr 8 aFA
structure Slot.ok (s : Slot) : Prop where
 salt : s.salt.length = 16
 sealed : s.sealed.length = 32
 check : s.check.length = 32
def slot0 : Slot := ⟨false, 0, List.replicate 16 0, List.replicate 32 0, List.replicate 32 0⟩
structure TabS (l : List Slot) : Prop where
 len : l.length = 8
 ok : ∀ s ∈ l, s.ok
theorem TabS.at {l : List Slot} (h : TabS l) {i : Nat} (hi : i < 8) : (l.getD i slot0).ok := h.ok _ (mM (by rw [h.len]; exact hi))
theorem aFF {s : Slot} (h : s.ok) : aD aFA (wT s) := ⟨rfl, rfl, h.salt, h.sealed, h.check, trivial⟩
abbrev tabD (l : List Slot) : D := .node (l.map wT)
theorem yJ : ∀ {l : List Slot}, (∀ s ∈ l, s.ok) → iY (aD aFA) (l.map wT)
 |[], _ => trivial
 |s :: l, h => ⟨aFF (h s (by simp)), yJ fun x hx => h x (by simp [hx])⟩
theorem TabS.ty {l : List Slot} (h : TabS l) : aD tTab (tabD l) := ⟨by rw [List.length_map, h.len], yJ h.ok⟩
theorem tS (s : Nat → Nat) : ∀ l : List Slot, D.rens s (l.map wT) = l.map wT
 |[] => rfl
 |a :: l => congrArg (wT a :: ·) (tS s l)
instance (l : List Slot) : Pure (tabD l) := ⟨fun s => congrArg D.node (tS s l)⟩
instance (s : Slot) : Pure (wT s) := ⟨fun _ => rfl⟩


theorem TabS.set {l : List Slot} (h : TabS l) {i : Nat} {s : Slot} (hs : s.ok) : TabS (l.set i s) := ⟨by rw [List.length_set, h.len], fun x hx => by
 rcases List.mem_or_eq_of_mem_set hx with h1 | h1
 ·exact h.ok x h1
 ·rw [h1]; exact hs⟩
theorem rd4_eq (bs : B8) (o : Nat) : (rdI bs o 4).setWidth 32 = (bs.getD o 0).setWidth 32 <<< 24 ||| (bs.getD (o + 1) 0).setWidth 32 <<< 16 ||| (bs.getD (o + 2) 0).setWidth 32 <<< 8 ||| (bs.getD (o + 3) 0).setWidth 32 := by
 simp only [rdI, Nat.add_zero]
 generalize bs.getD o 0 = a
 generalize bs.getD (o + 1) 0 = b
 generalize bs.getD (o + 2) 0 = c
 generalize bs.getD (o + 3) 0 = d
 refine BitVec.eq_of_getLsbD_eq fun i hi => ?_
 simp only [BitVec.getLsbD_setWidth, BitVec.getLsbD_or, BitVec.getLsbD_shiftLeft, hi, decide_true, Bool.true_and, BitVec.getLsbD_zero, Bool.and_false, Bool.false_or]
 have key : ∀ (x : BitVec 8) (k : Nat), 8 ≤ k → x.getLsbD k = false := fun x k hk => BitVec.getLsbD_of_ge _ _ hk
 rcases Nat.lt_or_ge i 8 with h | h
 ·simp [h, show i < 16 by omega, show i < 24 by omega, show i < 64 by omega]
 rcases Nat.lt_or_ge i 16 with h2 | h2
 ·simp [show ¬ i < 8 by omega, h2, show i < 24 by omega, show i < 64 by omega, key d i h, show i - 8 < 8 by omega, show i - 8 < 64 by omega, show i - 8 < 32 by omega]
 rcases Nat.lt_or_ge i 24 with h3 | h3
 ·simp [show ¬ i < 8 by omega, show ¬ i < 16 by omega, h3, show i < 64 by omega, key d i h, key c (i - 8) (by omega), show ¬ i - 8 < 8 by omega, show i - 8 < 64 by omega, show i - 8 - 8 = i - 16 by omega, show i - 16 < 8 by omega, show i - 16 < 64 by omega, show i - 16 < 32 by omega]
 ·simp [show ¬ i < 8 by omega, show ¬ i < 16 by omega, show ¬ i < 24 by omega, show i < 64 by omega, key d i h, key c (i - 8) (by omega), key b (i - 16) (by omega), show ¬ i - 8 < 8 by omega, show i - 8 < 64 by omega, show i - 8 - 8 = i - 16 by omega, show i - 16 - 8 = i - 24 by omega, show ¬ i - 16 < 8 by omega, show i - 16 < 64 by omega, show i - 24 < 64 by omega, show i - 24 < 32 by omega]
def be4 (n : BitVec 64) : B8 := [(n >>> 24).setWidth 8, (n >>> 16).setWidth 8, (n >>> 8).setWidth 8, (n >>> 0).setWidth 8]
theorem be4_eq (n : BitVec 64) : be4 n = nbF n 4 := by
 have h : nbF n 4 = [(n >>> 8 >>> 8 >>> 8).setWidth 8, (n >>> 8 >>> 8).setWidth 8, (n >>> 8).setWidth 8, n.setWidth 8] := rfl
 rw [h, be4]
 simp only [← BitVec.shiftRight_add, BitVec.ushiftRight_zero]
def wbI (s : List (BitVec 32)) : Nat → B8
 |0 => List.replicate 32 0
 |i + 1 => (wbI s i).set i ((s.getD (i / 4) 0 >>> (24 - 8 * (i % 4))).setWidth 8)
theorem nb4w (x : BitVec 32) : nbF (x.setWidth 64) 4 = [(x >>> 24).setWidth 8, (x >>> 16).setWidth 8, (x >>> 8).setWidth 8, (x >>> 0).setWidth 8] := by
 have key : ∀ k : Nat, (x.setWidth 64 >>> k).setWidth 8 = (x >>> k).setWidth 8 := fun k => by
  refine BitVec.eq_of_getLsbD_eq fun i hi => ?_
  simp only [BitVec.getLsbD_setWidth, BitVec.getLsbD_ushiftRight, hi, decide_true, Bool.true_and]
  rcases Nat.lt_or_ge (k + i) 64 with h | h
  ·simp [h]
  ·rw [BitVec.getLsbD_of_ge x (k + i) (by omega)]; simp
 rw [← be4_eq, be4, key, key, key, key]
theorem aEu (s : List (BitVec 32)) (hs : s.length = 8) : wbI s 32 = w8 s 8 := by
 obtain ⟨a, b, c, d, e, f, g, i, rfl⟩ := len8 hs
 simp only [w8, nb4w]
 kernel_rfl
def goR : List (BitVec 32) → (x0 x1 x2 x3 x4 x5 x6 x7 x8 x9 x10 x11 x12 x13 x14 x15 a b c d e f g h : BitVec 32) → List (BitVec 32)
 |[], _, _, _, _, _, _, _, _, _, _, _, _, _, _, _, _, a, b, c, d, e, f, g, h => [a, b, c, d, e, f, g, h]
 |k :: ks, x0, x1, x2, x3, x4, x5, x6, x7, x8, x9, x10, x11, x12, x13, x14, x15, a, b, c, d, e, f, g, h =>
  goR ks x1 x2 x3 x4 x5 x6 x7 x8 x9 x10 x11 x12 x13 x14 x15 (aCP x14 17 19 10 + x9 + aCP x1 7 18 3 + x0)
   (h + rsF e 6 11 25 + (e &&& f ||| ~~~e &&& g) + k + x0 + (rsF a 2 13 22 + (a &&& b ||| c &&& (a ||| b)))) a b c (d + (h + rsF e 6 11 25 + (e &&& f ||| ~~~e &&& g) + k + x0)) e f g
theorem nB (bs : B8) (o t : Nat) : ∀ n, t < n → n ≤ 64 → (wI bs o n).getD t 0 = (wI bs o (t + 1)).getD t 0
 |0, h, _ => absurd h (Nat.not_lt_zero t)
 |n + 1, h, hn => by
  by_cases e : t = n
  ·rw [e]
  ·have hl := fO bs o n
   rw [wI, iT (by omega), if_neg e]
   exact nB bs o t n (by omega) (by omega)
theorem wI_lo (bs : B8) (o t : Nat) (h : t < 16) : (wI bs o 64).getD t 0 = (rdI bs (o + 4 * t) 4).setWidth 32 := by
 have hl := fO bs o t
 rw [nB bs o t 64 (by omega) (Nat.le_refl _), wI, iT (by omega), if_pos rfl, if_pos h]
theorem wI_hi (bs : B8) (o t : Nat) (h : 16 ≤ t) (h2 : t < 64) : (wI bs o 64).getD t 0 =
  aCP ((wI bs o 64).getD (t - 2) 0) 17 19 10 + (wI bs o 64).getD (t - 7) 0 + aCP ((wI bs o 64).getD (t - 15) 0) 7 18 3 + (wI bs o 64).getD (t - 16) 0 := by
 have hl := fO bs o t
 have key : ∀ j, j < t → (wI bs o t).getD j 0 = (wI bs o 64).getD j 0 := fun j hj => by rw [nB bs o j t hj (by omega), nB bs o j 64 (by omega) (Nat.le_refl _)]
 rw [nB bs o t 64 h2 (Nat.le_refl _), wI, iT (by omega), if_pos rfl, if_neg (by omega), show ((t : Int) - 2).toNat = t - 2 by omega, show ((t : Int) - 7).toNat = t - 7 by omega, show ((t : Int) - 15).toNat = t - 15 by omega, show ((t : Int) - 16).toNat = t - 16 by omega,
  key _ (by omega), key _ (by omega), key _ (by omega), key _ (by omega)]
theorem aEk (bs : B8) (o : Nat) (s : List (BitVec 32)) (hs : s.length = 8) : ∀ (n t : Nat) (x0 x1 x2 x3 x4 x5 x6 x7 x8 x9 x10 x11 x12 x13 x14 x15 a b c d e f g h : BitVec 32), t + n = 64 →
  (∀ j, j < 16 → t + j < 64 → [x0, x1, x2, x3, x4, x5, x6, x7, x8, x9, x10, x11, x12, x13, x14, x15].getD j 0 = (wI bs o 64).getD (t + j) 0) → vI (wI bs o 64) s t = [a, b, c, d, e, f, g, h] →
  goR (K256.drop t) x0 x1 x2 x3 x4 x5 x6 x7 x8 x9 x10 x11 x12 x13 x14 x15 a b c d e f g h = vI (wI bs o 64) s 64
 |0, t, x0, x1, x2, x3, x4, x5, x6, x7, x8, x9, x10, x11, x12, x13, x14, x15, a, b, c, d, e, f, g, h, ht, hx, hv => by
  obtain rfl : t = 64 := by omega
  rw [hv]; rfl
 |n + 1, t, x0, x1, x2, x3, x4, x5, x6, x7, x8, x9, x10, x11, x12, x13, x14, x15, a, b, c, d, e, f, g, h, ht, hx, hv => by
  have hk : K256.drop t = K256.getD t 0 :: K256.drop (t + 1) := by
   have hl : t < K256.length := by rw [jQ]; omega
   rw [List.getD_eq_getElem?_getD, List.getElem?_eq_getElem hl, Option.getD_some, List.getElem_cons_drop]
  have h0 : x0 = (wI bs o 64).getD t 0 := hx 0 (by decide) (by omega)
  rw [hk, goR]
  refine aEk bs o s hs n (t + 1) _ _ _ _ _ _ _ _ _ _ _ _ _ _ _ _ _ _ _ _ _ _ _ _ (by omega) (fun j hj hj2 => ?_) ?_
  ·by_cases e : j = 15
   ·subst e
    have h1 : x1 = (wI bs o 64).getD (t + 1) 0 := hx 1 (by decide) (by omega)
    have h9 : x9 = (wI bs o 64).getD (t + 9) 0 := hx 9 (by decide) (by omega)
    have h14 : x14 = (wI bs o 64).getD (t + 14) 0 := hx 14 (by decide) (by omega)
    show aCP x14 17 19 10 + x9 + aCP x1 7 18 3 + x0 = _
    rw [wI_hi bs o (t + 1 + 15) (by omega) (by omega), h0, h1, h9, h14]
    rw [show t + 1 + 15 - 2 = t + 14 by omega, show t + 1 + 15 - 7 = t + 9 by omega, show t + 1 + 15 - 15 = t + 1 by omega, show t + 1 + 15 - 16 = t by omega]
   ·have := hx (j + 1) (by omega) (by omega)
    rw [show t + 1 + j = t + (j + 1) by omega, ← this]
    have h15 : j < 15 := by omega
    clear this hx e hj hj2
    match j, h15 with
    |0, _ | 1, _ | 2, _ | 3, _ | 4, _ | 5, _ | 6, _ | 7, _ | 8, _ | 9, _ | 10, _ | 11, _ | 12, _ | 13, _ | 14, _ => rfl
  ·show vS (vI (wI bs o 64) s t) (K256.getD t 0) ((wI bs o 64).getD t 0) = _
   rw [hv, ← h0]; rfl
def addE : List (BitVec 32) → List (BitVec 32) → List (BitVec 32)
 |[a, b, c, d, e, f, g, h], [a', b', c', d', e', f', g', h'] => [a + a', b + b', c + c', d + d', e + e', f + f', g + g', h + h']
 |_, _ => []
def blkE : List (BitVec 32) → List (BitVec 32) → List (BitVec 32)
 |[a, b, c, d, e, f, g, h], [x0, x1, x2, x3, x4, x5, x6, x7, x8, x9, x10, x11, x12, x13, x14, x15] => addE [a, b, c, d, e, f, g, h] (goR K256 x0 x1 x2 x3 x4 x5 x6 x7 x8 x9 x10 x11 x12 x13 x14 x15 a b c d e f g h)
 |_, _ => []
theorem aGN {s v : List (BitVec 32)} (hs : s.length = 8) (hv : v.length = 8) : aE2 s v 8 = addE s v := by
 obtain ⟨a, b, c, d, e, f, g, h, rfl⟩ := len8 hs
 obtain ⟨a', b', c', d', e', f', g', h', rfl⟩ := len8 hv
 rfl
def gO (bs : B8) (p : Nat) : BitVec 32 := (bs.getD p 0).setWidth 32 <<< 24 ||| (bs.getD (p + 1) 0).setWidth 32 <<< 16 ||| (bs.getD (p + 2) 0).setWidth 32 <<< 8 ||| (bs.getD (p + 3) 0).setWidth 32
theorem aDW (s : List (BitVec 32)) (bs : B8) (o : Nat) (hs : s.length = 8) : sbF s bs o = blkE s [gO bs (o + 4 * 0), gO bs (o + 4 * 1), gO bs (o + 4 * 2), gO bs (o + 4 * 3), gO bs (o + 4 * 4), gO bs (o + 4 * 5), gO bs (o + 4 * 6), gO bs (o + 4 * 7), gO bs (o + 4 * 8), gO bs (o + 4 * 9),
  gO bs (o + 4 * 10), gO bs (o + 4 * 11), gO bs (o + 4 * 12), gO bs (o + 4 * 13), gO bs (o + 4 * 14), gO bs (o + 4 * 15)] := by
 have hv := sY (wI bs o 64) s hs 64
 rw [sbF, aGN hs hv]
 obtain ⟨a, b, c, d, e, f, g, h, rfl⟩ := len8 hs
 rw [blkE, ← aEk bs o _ rfl 64 0 _ _ _ _ _ _ _ _ _ _ _ _ _ _ _ _ a b c d e f g h rfl (fun j hj _ => ?_) rfl, List.drop_zero]
 rw [Nat.zero_add, wI_lo bs o j hj, rd4_eq]
 match j, hj with
 |0, _ | 1, _ | 2, _ | 3, _ | 4, _ | 5, _ | 6, _ | 7, _ | 8, _ | 9, _ | 10, _ | 11, _ | 12, _ | 13, _ | 14, _ | 15, _ => rfl
 |j + 16, h => exact absurd h (by omega)
def jU : Nat → B8 → List (BitVec 32)
 |n + 1, a :: b :: c :: d :: r => (a.setWidth 32 <<< 24 ||| b.setWidth 32 <<< 16 ||| c.setWidth 32 <<< 8 ||| d.setWidth 32) :: jU n r
 |_, _ => []
def msgE : Nat → List (BitVec 32) → B8 → List (BitVec 32)
 |0, s, _ => s
 |n + 1, s, m => msgE n (blkE s (jU 16 m)) (m.drop 64)
theorem sV : ∀ (n : Nat) (m : B8) (o : Nat), o + 4 * n ≤ m.length → ∀ j, j < n → (jU n (m.drop o)).getD j 0 = gO m (o + 4 * j)
 |0, m, o, h, j, hj => absurd hj (Nat.not_lt_zero j)
 |n + 1, m, o, h, j, hj => by
  have key : ∀ p, p < m.length → m.drop p = m.getD p 0 :: m.drop (p + 1) := fun p hp => by
   rw [List.getD_eq_getElem?_getD, List.getElem?_eq_getElem hp, Option.getD_some, List.getElem_cons_drop]
  rw [key o (by omega), key (o + 1) (by omega), key (o + 1 + 1) (by omega), key (o + 1 + 1 + 1) (by omega), jU]
  match j, hj with
  |0, _ => rfl
  |j + 1, hj =>
   show (jU n (m.drop (o + 1 + 1 + 1 + 1))).getD j 0 = _
   rw [show o + 1 + 1 + 1 + 1 = o + 4 by omega, sV n m (o + 4) (by omega) j (by omega), show o + 4 + 4 * j = o + 4 * (j + 1) by omega]
theorem jT : ∀ (n : Nat) (m : B8), 4 * n ≤ m.length → (jU n m).length = n
 |0, m, _ => by cases m <;> rfl
 |n + 1, a :: b :: c :: d :: r, h => by
  rw [jU, List.length_cons, jT n r (by simp only [List.length_cons] at h; omega)]
 |n + 1, [], h => by simp at h
 |n + 1, [_], h => by simp at h; omega
 |n + 1, [_, _], h => by simp at h; omega
 |n + 1, [_, _, _], h => by simp at h; omega
theorem len16 {α : Type} {l : List α} (h : l.length = 16) : ∃ a b c d e f g i a' b' c' d' e' f' g' i', l = [a, b, c, d, e, f, g, i, a', b', c', d', e', f', g', i'] := by
 match l, h with
 |[a, b, c, d, e, f, g, i, a', b', c', d', e', f', g', i'], _ => exact ⟨a, b, c, d, e, f, g, i, a', b', c', d', e', f', g', i', rfl⟩
theorem aDV (s : List (BitVec 32)) (m : B8) (o : Nat) (hs : s.length = 8) (h : o + 64 ≤ m.length) : sbF s m o = blkE s (jU 16 (m.drop o)) := by
 rw [aDW s m o hs]
 have hl := jT 16 (m.drop o) (by rw [List.length_drop]; omega)
 have hw := sV 16 m o (by omega)
 generalize jU 16 (m.drop o) = w at hl hw
 obtain ⟨a, b, c, d, e, f, g, i, a', b', c', d', e', f', g', i', rfl⟩ := len16 hl
 rw [← hw 0 (by decide), ← hw 1 (by decide), ← hw 2 (by decide), ← hw 3 (by decide), ← hw 4 (by decide), ← hw 5 (by decide), ← hw 6 (by decide), ← hw 7 (by decide), ← hw 8 (by decide), ← hw 9 (by decide), ← hw 10 (by decide), ← hw 11 (by decide), ← hw 12 (by decide), ← hw 13 (by decide), ← hw 14 (by decide), ← hw 15 (by decide)]
 rfl
theorem aCO (s : List (BitVec 32)) (hs : s.length = 8) (m : B8) : ∀ (n j : Nat), 64 * (j + n) ≤ m.length → msgE n (fZ s m j) (m.drop (64 * j)) = fZ s m (j + n)
 |0, j, _ => rfl
 |n + 1, j, h => by
  rw [msgE, ← aDV _ m (64 * j) (by rw [cU, hs]) (by omega), List.drop_drop]
  have := aCO s hs m n (j + 1) (by omega)
  rw [show 64 * (j + 1) = 64 * j + 64 by omega, fZ] at this
  rw [this, show j + 1 + n = j + (n + 1) by omega]
def aFa : List (BitVec 32) → B8
 |x :: r => x.setWidth 8 |> fun l => (x >>> 24).setWidth 8 :: (x >>> 16).setWidth 8 :: (x >>> 8).setWidth 8 :: l :: aFa r
 |[] => []
theorem aF9 {s : List (BitVec 32)} (hs : s.length = 8) : w8 s 8 = aFa s := by
 obtain ⟨a, b, c, d, e, f, g, i, rfl⟩ := len8 hs
 rw [← aEu _ rfl]
 have h : ∀ x : BitVec 32, x >>> 0 = x := fun x => BitVec.ushiftRight_zero x
 simp only [aFa]
 have key : wbI [a, b, c, d, e, f, g, i] 32 = aFa [a >>> 0, b >>> 0, c >>> 0, d >>> 0, e >>> 0, f >>> 0, g >>> 0, i >>> 0] := by
  simp only [aFa, h]
  kernel_rfl
 rw [key]
 simp only [aFa, h]
def shaE (m : B8) (n : Nat) : B8 := aFa (msgE n H0 (sM m m.length))
theorem aFM (m : B8) (n : Nat) (h : (m.length + 9 + zN m.length) / 64 = n) : j0 m = shaE m n := by
 have hp := nT m m.length
 have := aCO H0 rfl (sM m m.length) n 0 (by rw [hp]; omega)
 rw [Nat.zero_add] at this
 rw [j0, aF9 (by rw [cU]; rfl), hp, h, ← this]
 rfl

def uF (s : B8) (c : Nat) : BitVec 8 := bX (bX (s.getD c 0 ^^^ s.getD (c + 2) 0))
def vF (s : B8) (c : Nat) : BitVec 8 := bX (bX (s.getD (c + 1) 0 ^^^ s.getD (c + 3) 0))
def addF (s : B8) (c : Nat) (u : BitVec 8) : B8 := s.set c (s.getD c 0 ^^^ u)
def preF (s : B8) (c : Nat) : B8 := addF (addF (addF (addF s c (uF s c)) (c + 1) (vF s c)) (c + 2) (uF s c)) (c + 3) (vF s c)
def aF7 (s : B8) : Nat → B8
 |0 => s
 |j + 1 => preF (aF7 s j) (4 * j)
def pM (s : B8) : B8 := aDB (aF7 s 4)
theorem gJ (s : B8) (c : Nat) (u : BitVec 8) : (addF s c u).length = s.length := List.length_set
theorem w6 (s : B8) (c : Nat) : (preF s c).length = s.length := by rw [preF, gJ, gJ, gJ, gJ]
theorem i7 (s : B8) : ∀ j, (aF7 s j).length = s.length
 |0 => rfl
 |j + 1 => by rw [aF7, w6, i7 s j]
theorem jV (s : B8) : (pM s).length = s.length := by rw [pM, eW, i7]
theorem aAL (s : B8) (hs : s.length = 16) : AC Tryz.prog 135 [.u8s s] 0 [] ⟨.u8s (pM s), [], []⟩ := by
 refine fM tab mix Tryz.func135 rfl (by kernel_rfl) (by kernel_rfl) (by kernel_rfl) {} ?_
 refine stN ?_
 refine aT Nat (fun j => [(1, .ptr 0 []), (2, .ptr 1 []), (3, .i64 (4 * j : Nat))]) (fun j => [(0, some ⟨t16, .u8s (aF7 s j), true⟩), (1, some ⟨t16, .u8s (List.replicate 16 0), true⟩)]) 2
  (fun j => j ≤ 4) (fun j => 4 - j) 0 [0, 1] (Nat.zero_le _) ?_ ?_
 ·exact bA rfl ⟨rfl, rfl, rfl, trivial⟩ ⟨⟨_, rfl, rfl, rfl, id⟩, ⟨_, rfl, rfl, rfl, id⟩, trivial⟩ rfl
 intro j hj
 have hl := i7 s j
 rw [hs] at hl
 refine stN ?_
 refine Br.split (fun h => ?_) (fun h => ?_)
 ·have hj : j < 4 := by have := of_decide_eq_true h; omega
  refine stN ?_
  refine bY (fX _) [] rfl rfl trivial rfl rfl ?_
  refine stN ?_
  refine bY (fX _) [] rfl rfl trivial rfl rfl ?_
  refine stN ?_
  refine bY (fX _) [] rfl rfl trivial rfl rfl ?_
  refine stN ?_
  refine bY (fX _) [] rfl rfl trivial rfl rfl ?_
  refine stN ?_
  refine fS (j + 1) [0, 1] ?_ ?_ ?_
  ·omega
  ·omega
  ·exact bA rfl ⟨rfl, rfl, rfl, trivial⟩ ⟨⟨_, rfl, rfl, rfl, id⟩, ⟨_, rfl, rfl, rfl, id⟩, trivial⟩ rfl
 ·have hj : j = 4 := by have := of_decide_eq_false h; omega
  have hm := eW (aF7 s j)
  rw [hl] at hm
  refine stN ?_
  refine bY (zK _ hl) [] rfl rfl trivial rfl rfl ?_
  refine stN ?_
  refine oX [] ?_ rfl trivial rfl
  refine congrArg D.u8s ?_
  rw [hj]; rfl
def qZ (s : B8) : Nat → B8
 |0 => List.replicate 16 0
 |i + 1 => (qZ s i).set ((i + 4 * (i % 4)) % 16) (pL (s.getD i 0))
theorem d7 (s : B8) : ∀ i, (qZ s i).length = 16
 |0 => rfl
 |i + 1 => by rw [qZ, List.length_set, d7 s i]
def aGD (ks : List B8) (k : Nat) (s : B8) : B8 := if 14 - k < 14 then pM (m8 s (ks.getD (14 - k) [])) else m8 s (ks.getD (14 - k) [])
def xQ (ks : List B8) (b : B8) : Nat → B8
 |0 => b
 |k + 1 => qZ (aGD ks k (xQ ks b k)) 16
def aAw (ks : List B8) (b : B8) : B8 := m8 (xQ ks b 14) (ks.getD 0 [])
theorem xP (ks : List B8) (k : Nat) (s : B8) : (aGD ks k s).length = s.length := by
 unfold aGD
 split
 ·rw [jV, aL]
 ·rw [aL]
section
variable (ks : List B8) (b : B8) (hb : b.length = 16)
include ks b hb
theorem jM : ∀ k, (xQ ks b k).length = 16
 |0 => hb
 |k + 1 => by rw [xQ, d7]
theorem aAv (h1 : ks.length = 15) (h2 : ∀ k ∈ ks, k.length = 16) :
  AC Tryz.prog 99 [.ptr 0 [], .u8s b] 1 [(0, some ⟨tC, bP ks, true⟩)] ⟨.u8s (aAw ks b), [], []⟩ := by
 have hm : (ks.map D.u8s).length = 15 := by rw [List.length_map, h1]
 have hk : ∀ i, i < 15 → (ks.getD i []).length = 16 := fun i hi => h2 _ (mM (by omega))
 refine fM tab mix Tryz.func99 rfl (by kernel_rfl) (by kernel_rfl) (by kernel_rfl) ⟨[10], []⟩ ?_
 refine stN ?_
 refine Br.no rfl ?_
 refine stN ?_
 refine aT Nat (fun k => [(0, .ptr 0 []), (4, .ptr 2 []), (5, .ptr 3 []), (6, .i64 (14 - k : Nat))])
  (fun k => [(0, some ⟨tC, bP ks, true⟩), (2, some ⟨t16, .u8s (List.replicate 16 0), true⟩), (3, some ⟨t16, .u8s (xQ ks b k), true⟩)]) 4 (fun k => k ≤ 14) (fun k => 14 - k) 0 [0, 1, 2, 3] (Nat.zero_le _) ?_ ?_
 ·exact bA rfl ⟨rfl, rfl, rfl, rfl, trivial⟩ ⟨⟨_, rfl, rfl, (aC _ ks).symm, id⟩, ⟨_, rfl, rfl, rfl, id⟩, ⟨_, rfl, rfl, rfl, id⟩, trivial⟩ rfl
 intro k hk14
 have hl := jM ks b hb k
 refine stN ?_
 refine Br.split (fun h => ?_) (fun h => ?_)
 ·have hk14 : k < 14 := by have := of_decide_eq_true h; omega
  have hx := aL (xQ ks b k) (ks.getD (14 - k) [])
  rw [hl] at hx
  repeat first | (rw [mJ (l := ks)]; rotate_left; omega) | rw [Int.toNat_natCast (14 - k)] | refine st1 ?_
  refine bY (yA _ (ks.getD (14 - k) []) hl (hk (14 - k) (by omega))) [] rfl rfl trivial rfl rfl ?_
  refine stN ?_
  refine uO Unit (fun _ => [(0, .ptr 0 []), (4, .ptr 2 []), (5, .ptr 3 []), (6, .i64 (14 - k : Nat))])
   (fun _ => [(0, some ⟨tC, bP ks, true⟩), (2, some ⟨t16, .u8s (List.replicate 16 0), true⟩), (3, some ⟨t16, .u8s (aGD ks k (xQ ks b k)), true⟩)]) 4 (fun _ => True) ?_ ?_
  ·refine stN ?_
   refine Br.split (fun h => ?_) (fun h => ?_)
   ·have h : 14 - k < 14 := by have := of_decide_eq_true h; omega
    have hu := jV (m8 (xQ ks b k) (ks.getD (14 - k) []))
    rw [hx] at hu
    refine stN ?_
    refine bY (aAL _ hx) [] rfl rfl trivial rfl rfl ?_
    refine stN ?_
    refine gZ () [0, 1, 2, 3] trivial ?_
    exact bA rfl ⟨rfl, rfl, rfl, rfl, trivial⟩ ⟨⟨_, rfl, rfl, (aC _ ks).symm, id⟩, ⟨_, rfl, rfl, rfl, id⟩, ⟨_, rfl, rfl, congrArg D.u8s (if_pos h).symm, id⟩, trivial⟩ rfl
   ·have h : ¬ 14 - k < 14 := by have := of_decide_eq_false h; omega
    refine gZ () [0, 1, 2, 3] trivial ?_
    exact bA rfl ⟨rfl, rfl, rfl, rfl, trivial⟩ ⟨⟨_, rfl, rfl, (aC _ ks).symm, id⟩, ⟨_, rfl, rfl, rfl, id⟩, ⟨_, rfl, rfl, congrArg D.u8s (if_neg h).symm, id⟩, trivial⟩ rfl
  intro _ _
  have ht := xP ks k (xQ ks b k)
  rw [hl] at ht
  have hc : xQ ks b (k + 1) = qZ (aGD ks k (xQ ks b k)) 16 := rfl
  generalize aGD ks k (xQ ks b k) = t at ht hc ⊢
  refine stN ?_
  refine aT Nat (fun i => [(0, .ptr 0 []), (4, .ptr 2 []), (5, .ptr 3 []), (6, .i64 (14 - k : Nat)), (7, .ptr 4 []), (29, .i64 i)])
   (fun i => [(0, some ⟨tC, bP ks, true⟩), (2, some ⟨t16, .u8s (List.replicate 16 0), true⟩), (3, some ⟨t16, .u8s t, true⟩), (4, some ⟨t16, .u8s (qZ t i), true⟩)]) 5 (fun i => i ≤ 16) (fun i => 16 - i) 0 [0, 1, 2, 3, 4] (Nat.zero_le _) ?_ ?_
  ·exact bA rfl ⟨rfl, rfl, rfl, rfl, rfl, rfl, trivial⟩ ⟨⟨_, rfl, rfl, (aC _ ks).symm, id⟩, ⟨_, rfl, rfl, rfl, id⟩, ⟨_, rfl, rfl, rfl, id⟩, ⟨_, rfl, rfl, rfl, id⟩, trivial⟩ rfl
  intro i hi
  have hs := d7 t i
  refine stN ?_
  refine Br.split (fun h => ?_) (fun h => ?_)
  ·have hi : i < 16 := by have := of_decide_eq_true h; omega
   have e1 : Int.tmod (i : Int) 4 = ((i % 4 : Nat) : Int) := (Int.ofNat_tmod i 4).symm
   have e2 : Int.tmod ((i : Int) + 4 * ((i % 4 : Nat) : Int)) 16 = (((i + 4 * (i % 4)) % 16 : Nat) : Int) := Int.ofNat_tmod (i + 4 * (i % 4)) 16
   repeat first | rw [e1] | rw [e2] | refine st1 ?_
   refine bY aDI [] rfl rfl trivial rfl rfl ?_
   repeat first | rw [e1] | rw [e2] | refine EffG.mk (And.intro (sC _ unboxL rA) ?_) | refine st1 ?_
   refine fS (i + 1) [0, 1, 2, 3, 4] ?_ ?_ ?_
   ·omega
   ·omega
   ·exact bA rfl ⟨rfl, rfl, rfl, rfl, rfl, rfl, trivial⟩ ⟨⟨_, rfl, rfl, (aC _ ks).symm, id⟩, ⟨_, rfl, rfl, rfl, id⟩, ⟨_, rfl, rfl, rfl, id⟩, ⟨_, rfl, rfl, rfl, id⟩, trivial⟩ rfl
  ·have hi : i = 16 := by have := of_decide_eq_false h; omega
   subst hi
   refine stN ?_
   refine fS (k + 1) [0, 1, 2, 3] ?_ ?_ ?_
   ·omega
   ·omega
   ·exact bA rfl ⟨rfl, rfl, rfl, congrArg (fun x => some (D.i64 x)) (by omega), trivial⟩ ⟨⟨_, rfl, rfl, (aC _ ks).symm, id⟩, ⟨_, rfl, rfl, rfl, id⟩, ⟨_, rfl, rfl, congrArg D.u8s hc.symm, id⟩, trivial⟩ rfl
 ·have hk14 : k = 14 := by have := of_decide_eq_false h; omega
  subst hk14
  have hx := aL (xQ ks b 14) (ks.getD 0 [])
  rw [hl] at hx
  repeat first | (rw [mJ (l := ks)]; rotate_left; omega) | refine st1 ?_
  refine bY (yA _ (ks.getD 0 []) hl (hk 0 (by omega))) [] rfl rfl trivial rfl rfl ?_
  refine stN ?_
  refine oX [0] rfl rfl ⟨⟨_, rfl, rfl, (aC _ ks).symm, id⟩, trivial⟩ rfl
end
theorem aES (b : BitVec 8) : pL (j4 b) = b ∧ j4 (pL b) = b :=
 aAC (p := fun b => pL (j4 b) = b ∧ j4 (pL b) = b) (by decide +kernel) b
theorem zP (a : BitVec 8) : a &&& 128 = 0 ∨ a &&& 128 = 128 := aAC (p := fun a => a &&& 128 = 0 ∨ a &&& 128 = 128) (by decide +kernel) a
theorem b5 (a b c : BitVec 8) : a ^^^ (b ^^^ c) = b ^^^ (a ^^^ c) := by rw [← BitVec.xor_assoc, BitVec.xor_comm a b, BitVec.xor_assoc]
theorem c8 (a b : BitVec 8) : a ^^^ (a ^^^ b) = b := by rw [← BitVec.xor_assoc, BitVec.xor_self, BitVec.zero_xor]
theorem aGL (a b c : BitVec 8) : (a ^^^ b) &&& c = (a &&& c) ^^^ (b &&& c) := by
 apply BitVec.eq_of_getLsbD_eq
 intro i hi
 simp only [BitVec.getLsbD_and, BitVec.getLsbD_xor]
 cases a.getLsbD i <;> cases b.getLsbD i <;> cases c.getLsbD i <;> rfl
theorem iL (a b : BitVec 8) : bX (a ^^^ b) = bX a ^^^ bX b := by
 unfold bX
 have e : (a ^^^ b) &&& 128 = (a &&& 128) ^^^ (b &&& 128) := aGL a b 128
 rw [e, BitVec.shiftLeft_xor_distrib]
 rcases zP a with ha | ha <;> rcases zP b with hb | hb <;> rw [ha, hb]
 ·simp
 ·simp [BitVec.xor_assoc]
 ·simp only [BitVec.xor_assoc, BitVec.xor_comm, b5, if_true]; simp [BitVec.xor_assoc, BitVec.xor_comm, b5]
 ·simp [BitVec.xor_assoc, BitVec.xor_comm, b5, c8]
theorem list16 {α : Type} (l : List α) (h : l.length = 16) : ∃ a0 a1 a2 a3 a4 a5 a6 a7 a8 a9 a10 a11 a12 a13 a14 a15, l = [a0, a1, a2, a3, a4, a5, a6, a7, a8, a9, a10, a11, a12, a13, a14, a15] := by
 match l, h with
 |[a0, a1, a2, a3, a4, a5, a6, a7, a8, a9, a10, a11, a12, a13, a14, a15], _ => exact ⟨a0, a1, a2, a3, a4, a5, a6, a7, a8, a9, a10, a11, a12, a13, a14, a15, rfl⟩
def mcF (f : BitVec 8 → BitVec 8) (a b c d : BitVec 8) : B8 :=
 [a ^^^ (a ^^^ b ^^^ c ^^^ d ^^^ f (a ^^^ b)), b ^^^ (a ^^^ b ^^^ c ^^^ d ^^^ f (b ^^^ c)), c ^^^ (a ^^^ b ^^^ c ^^^ d ^^^ f (c ^^^ d)), d ^^^ (a ^^^ b ^^^ c ^^^ d ^^^ f (d ^^^ a))]
def pcF (f : BitVec 8 → BitVec 8) (a b c d : BitVec 8) : B8 :=
 [a ^^^ f (f (a ^^^ c)), b ^^^ f (f (b ^^^ d)), c ^^^ f (f (a ^^^ c)), d ^^^ f (f (b ^^^ d))]
theorem uG (a0 a1 a2 a3 a4 a5 a6 a7 a8 a9 a10 a11 a12 a13 a14 a15 : BitVec 8) : aDB [a0, a1, a2, a3, a4, a5, a6, a7, a8, a9, a10, a11, a12, a13, a14, a15] =
  mcF bX a0 a1 a2 a3 ++ mcF bX a4 a5 a6 a7 ++ mcF bX a8 a9 a10 a11 ++ mcF bX a12 a13 a14 a15 := by
 kernel_rfl
theorem aBy (a0 a1 a2 a3 a4 a5 a6 a7 a8 a9 a10 a11 a12 a13 a14 a15 : BitVec 8) : aF7 [a0, a1, a2, a3, a4, a5, a6, a7, a8, a9, a10, a11, a12, a13, a14, a15] 4 =
  pcF bX a0 a1 a2 a3 ++ pcF bX a4 a5 a6 a7 ++ pcF bX a8 a9 a10 a11 ++ pcF bX a12 a13 a14 a15 := by
 kernel_rfl
def ap4 (g : BitVec 8 → BitVec 8 → BitVec 8 → BitVec 8 → B8) : B8 → B8
 |[a, b, c, d] => g a b c d
 |_ => []
theorem list4 {a b c d a' b' c' d' : BitVec 8} (h0 : a = a') (h1 : b = b') (h2 : c = c') (h3 : d = d') : [a, b, c, d] = [a', b', c', d'] := by rw [h0, h1, h2, h3]
section
variable (f : BitVec 8 → BitVec 8) (hf : ∀ x y, f (x ^^^ y) = f x ^^^ f y) (a b c d : BitVec 8)
include f hf a b c d
theorem rO (m0 m1 m2 m3 : BitVec 8) (h0 : m0 = b ^^^ (c ^^^ (d ^^^ (f a ^^^ f b)))) (h1 : m1 = a ^^^ (c ^^^ (d ^^^ (f b ^^^ f c)))) (h2 : m2 = a ^^^ (b ^^^ (d ^^^ (f c ^^^ f d)))) (h3 : m3 = a ^^^ (b ^^^ (c ^^^ (f d ^^^ f a)))) : m0 ^^^ (m0 ^^^ m1 ^^^ m2 ^^^ m3 ^^^ f (m0 ^^^ m1)) = a ^^^ f (f (a ^^^ c)) := by
 have e1 : m0 ^^^ m1 = a ^^^ (b ^^^ (f a ^^^ f c)) := by
  rw [h0, h1]
  simp only [BitVec.xor_assoc, BitVec.xor_comm, b5, c8]
 have e2 : m0 ^^^ (m0 ^^^ m1 ^^^ m2 ^^^ m3 ^^^ f (m0 ^^^ m1)) = m1 ^^^ (m2 ^^^ (m3 ^^^ f (m0 ^^^ m1))) := by
  simp only [BitVec.xor_assoc, c8]
 rw [e2, e1, hf a, hf b, hf (f a), hf a c, hf (f a), h1, h2, h3]
 simp only [BitVec.xor_assoc, BitVec.xor_comm, b5, c8, BitVec.xor_self, BitVec.xor_zero]
theorem aFl : ap4 (mcF f) (mcF f a b c d) = pcF f a b c d := by
 have l0 : a ^^^ (a ^^^ b ^^^ c ^^^ d ^^^ f (a ^^^ b)) = b ^^^ (c ^^^ (d ^^^ (f a ^^^ f b))) := by
  rw [hf]; simp only [BitVec.xor_assoc, BitVec.xor_comm, b5, c8]
 have l1 : b ^^^ (a ^^^ b ^^^ c ^^^ d ^^^ f (b ^^^ c)) = a ^^^ (c ^^^ (d ^^^ (f b ^^^ f c))) := by
  rw [hf]; simp only [BitVec.xor_assoc, BitVec.xor_comm, b5, c8]
 have l2 : c ^^^ (a ^^^ b ^^^ c ^^^ d ^^^ f (c ^^^ d)) = a ^^^ (b ^^^ (d ^^^ (f c ^^^ f d))) := by
  rw [hf]; simp only [BitVec.xor_assoc, BitVec.xor_comm, b5, c8]
 have l3 : d ^^^ (a ^^^ b ^^^ c ^^^ d ^^^ f (d ^^^ a)) = a ^^^ (b ^^^ (c ^^^ (f d ^^^ f a))) := by
  rw [hf]; simp only [BitVec.xor_assoc, BitVec.xor_comm, b5, c8]
 show mcF f _ _ _ _ = _
 revert l0 l1 l2 l3
 generalize a ^^^ (a ^^^ b ^^^ c ^^^ d ^^^ f (a ^^^ b)) = m0
 generalize b ^^^ (a ^^^ b ^^^ c ^^^ d ^^^ f (b ^^^ c)) = m1
 generalize c ^^^ (a ^^^ b ^^^ c ^^^ d ^^^ f (c ^^^ d)) = m2
 generalize d ^^^ (a ^^^ b ^^^ c ^^^ d ^^^ f (d ^^^ a)) = m3
 intro l0 l1 l2 l3
 have ac : ∀ x y z w : BitVec 8, x ^^^ (y ^^^ (z ^^^ w)) = y ^^^ (z ^^^ (x ^^^ w)) := fun x y z w => by simp only [BitVec.xor_comm, b5]
 have r1 : m0 ^^^ m1 ^^^ m2 ^^^ m3 = m1 ^^^ m2 ^^^ m3 ^^^ m0 := by simp only [BitVec.xor_assoc, BitVec.xor_comm, b5]
 have r2 : m0 ^^^ m1 ^^^ m2 ^^^ m3 = m2 ^^^ m3 ^^^ m0 ^^^ m1 := by simp only [BitVec.xor_assoc, BitVec.xor_comm, b5]
 have r3 : m0 ^^^ m1 ^^^ m2 ^^^ m3 = m3 ^^^ m0 ^^^ m1 ^^^ m2 := by simp only [BitVec.xor_assoc, BitVec.xor_comm, b5]
 refine list4 ?_ ?_ ?_ ?_
 ·exact rO f hf a b c d m0 m1 m2 m3 l0 l1 l2 l3
 ·rw [r1]
  exact rO f hf b c d a m1 m2 m3 m0 (by rw [l1]; simp only [BitVec.xor_comm, b5]) (by rw [l2]; simp only [BitVec.xor_comm, b5]) (by rw [l3]; simp only [BitVec.xor_comm, b5]) (by rw [l0])
 ·rw [r2, BitVec.xor_comm a c]
  exact rO f hf c d a b m2 m3 m0 m1 (by rw [l2]; simp only [BitVec.xor_comm, b5]) (by rw [l3]; simp only [BitVec.xor_comm, b5]) (by rw [l0]; simp only [BitVec.xor_comm, b5]) (by rw [l1]; simp only [BitVec.xor_comm, b5])
 ·rw [r3, BitVec.xor_comm b d]
  exact rO f hf d a b c m3 m0 m1 m2 (by rw [l3]) (by rw [l0]; simp only [BitVec.xor_comm, b5]) (by rw [l1]; simp only [BitVec.xor_comm, b5]) (by rw [l2]; simp only [BitVec.xor_comm, b5])
theorem pc_pc : ap4 (pcF f) (pcF f a b c d) = [a, b, c, d] := by
 have e : ∀ x y z : BitVec 8, (x ^^^ z) ^^^ (y ^^^ z) = x ^^^ y := fun x y z => by simp only [BitVec.xor_assoc, BitVec.xor_comm, b5, BitVec.xor_self, BitVec.xor_zero]
 have r : ∀ x y : BitVec 8, (x ^^^ y) ^^^ y = x := fun x y => by simp only [BitVec.xor_assoc, BitVec.xor_self, BitVec.xor_zero]
 show pcF f _ _ _ _ = _
 unfold pcF
 rw [e, e, r, r, r, r]
end
theorem aEU {g h : BitVec 8 → BitVec 8 → BitVec 8 → BitVec 8 → B8} {l : B8} (hl : l.length = 4) (e : ∀ a b c d, g a b c d = h a b c d) : ap4 g l = ap4 h l := by
 match l, hl with
 |[a, b, c, d], _ => exact e a b c d
theorem mT (f : BitVec 8 → BitVec 8) (hf : ∀ x y, f (x ^^^ y) = f x ^^^ f y) (a b c d : BitVec 8) : ap4 (mcF f) (ap4 (pcF f) (mcF f a b c d)) = [a, b, c, d] := by
 have h1 : ap4 (pcF f) (mcF f a b c d) = ap4 (fun a b c d => ap4 (mcF f) (mcF f a b c d)) (mcF f a b c d) := aEU rfl (fun a b c d => (aFl f hf a b c d).symm)
 have h2 : ap4 (fun a b c d => ap4 (mcF f) (mcF f a b c d)) (mcF f a b c d) = ap4 (mcF f) (pcF f a b c d) := congrArg (ap4 (mcF f)) (aFl f hf a b c d)
 rw [h1, h2]
 have h3 : ap4 (mcF f) (ap4 (mcF f) (pcF f a b c d)) = ap4 (pcF f) (pcF f a b c d) := aFl f hf _ _ _ _
 rw [h3, pc_pc f hf]
theorem four {l0 l1 l2 l3 r0 r1 r2 r3 : B8} (h0 : l0 = r0) (h1 : l1 = r1) (h2 : l2 = r2) (h3 : l3 = r3) : l0 ++ l1 ++ l2 ++ l3 = r0 ++ r1 ++ r2 ++ r3 := by rw [h0, h1, h2, h3]
theorem aBU (s : B8) (hs : s.length = 16) : pM (aDB s) = s := by
 obtain ⟨a0, a1, a2, a3, a4, a5, a6, a7, a8, a9, a10, a11, a12, a13, a14, a15, rfl⟩ := list16 s hs
 rw [uG]
 simp only [mcF, List.cons_append, List.nil_append]
 unfold pM
 rw [aBy]
 simp only [pcF, List.cons_append, List.nil_append]
 rw [uG]
 exact four (mT bX iL a0 a1 a2 a3) (mT bX iL a4 a5 a6 a7) (mT bX iL a8 a9 a10 a11) (mT bX iL a12 a13 a14 a15)
theorem ext16 {l r : B8} (h1 : l.length = 16) (h2 : r.length = 16) (hi : ∀ i, i < 16 → l.getD i 0 = r.getD i 0) : l = r := by
 refine List.ext_getElem (h1.trans h2.symm) fun i q1 q2 => ?_
 have := hi i (by omega)
 rwa [List.getD_eq_getElem?_getD, List.getD_eq_getElem?_getD, List.getElem?_eq_getElem q1, List.getElem?_eq_getElem q2] at this
theorem v8 (s k : B8) (hs : s.length = 16) : ∀ n, n ≤ 16 → ∀ i, (aCw s k n).getD i 0 = if i < n then s.getD i 0 ^^^ k.getD i 0 else s.getD i 0
 |0, _, i => by simp [aCw]
 |n + 1, hn, i => by
  rw [aCw, iT (by rw [eS, hs]; omega)]
  by_cases h : i = n
  ·subst h
   rw [if_pos rfl, v8 s k hs i (by omega) i, if_neg (Nat.lt_irrefl _), if_pos (Nat.lt_succ_self _)]
  ·rw [if_neg h, v8 s k hs n (by omega) i]
   by_cases h2 : i < n
   ·rw [if_pos h2, if_pos (by omega)]
   ·rw [if_neg h2, if_neg (by omega)]
theorem aBR (s k : B8) (hs : s.length = 16) (i : Nat) (hi : i < 16) : (m8 s k).getD i 0 = s.getD i 0 ^^^ k.getD i 0 := by
 rw [m8, v8 s k hs 16 (Nat.le_refl _) i, if_pos hi]
theorem m7 (s k : B8) (hs : s.length = 16) : m8 (m8 s k) k = s := by
 have h1 : (m8 s k).length = 16 := by rw [aL, hs]
 refine ext16 (by rw [aL, h1]) hs fun i hi => ?_
 rw [aBR _ k h1 i hi, aBR s k hs i hi, BitVec.xor_assoc, BitVec.xor_self, BitVec.xor_zero]
def sg (i : Nat) : Nat := (i + 4 * (i % 4)) % 16
theorem sg_inj : ∀ i, i < 16 → ∀ j, j < 16 → sg i = sg j → i = j := by decide
theorem aFN : ∀ i, i < 16 → ∃ j, j < 16 ∧ sg j = i := by decide
theorem sg_lt (i : Nat) : sg i < 16 := Nat.mod_lt _ (by decide)
theorem aBY (s : B8) : ∀ n, n ≤ 16 → ∀ i, i < n → (sL s n).getD i 0 = j4 (s.getD (sg i) 0)
 |0, _, i, hi => by omega
 |n + 1, hn, i, hi => by
  rw [sL, iT (by rw [b9]; omega)]
  by_cases h : i = n
  ·subst h; rw [if_pos rfl]; rfl
  ·rw [if_neg h]
   exact aBY s n (by omega) i (by omega)
theorem yD (s : B8) : ∀ n, n ≤ 16 → ∀ i, i < n → (qZ s n).getD (sg i) 0 = pL (s.getD i 0)
 |0, _, i, hi => by omega
 |n + 1, hn, i, hi => by
  rw [qZ, show (n + 4 * (n % 4)) % 16 = sg n from rfl, iT (by rw [d7]; exact sg_lt n)]
  by_cases h : i = n
  ·subst h; rw [if_pos rfl]
  ·rw [if_neg (fun e => h (sg_inj i (by omega) n (by omega) e))]
   exact yD s n (by omega) i (by omega)
theorem yC (s : B8) (hs : s.length = 16) : qZ (sL s 16) 16 = s := by
 refine ext16 (d7 _ _) hs fun i hi => ?_
 obtain ⟨j, hj, rfl⟩ := aFN i hi
 rw [yD _ 16 (Nat.le_refl _) j hj, aBY _ 16 (Nat.le_refl _) j hj, (aES _).1]
theorem aGC (ks : List B8) (a : B8) (ha : a.length = 16) : aAw ks (iD ks a 14) = a := by
 have key : ∀ k, k ≤ 14 → xQ ks (iD ks a 14) k = iD ks a (14 - k) := by
  intro k
  induction k with
  |zero => intro _; rfl
  |succ k ih =>
   intro hk
   have hl := bV ks a ha (14 - (k + 1))
   rw [xQ, ih (by omega)]
   have e : 14 - k = 14 - (k + 1) + 1 := by omega
   have e2 : iD ks a (14 - k) = m8 (if 14 - k < 14 then aDB (sL (iD ks a (14 - (k + 1))) 16) else sL (iD ks a (14 - (k + 1))) 16) (ks.getD (14 - k) []) := by
    rw [e]; rfl
   unfold aGD
   rw [e2]
   by_cases h : 14 - k < 14
   ·simp only [if_pos h]
    rw [m7 _ _ (by rw [eW, b9]), aBU _ (b9 _ _), yC _ hl]
   ·simp only [if_neg h]
    rw [m7 _ _ (b9 _ _), yC _ hl]
 rw [aAw, key 14 (Nat.le_refl _)]
 exact m7 a _ ha

end Go.Proofs.YtllcgppffncafaaGreatDoor.Av
namespace Go.Proofs.YtllcgppffncafaaGreatDoor.Av
open Go Go.RowKit Go.Shelf
set_option linter.all false
set_option maxRecDepth 3000
attribute [local go_sem] Oper.semAt_some
set_option maxRecDepth 100000 in
set_option maxHeartbeats 1000000 in
theorem wV (F : Fence) (n : Nat) (hF : F.fn 175) (hn : F.depth.isSome = true → 1 ≤ n) (hro : F.round = none) (l b1 o1 b2 o2 : Nat) (at_ k q c K : Nat) (hq : 512 * q ≤ at_) (hq2 : at_ < 512 * q + 512) (hc : c = if k = 0 then 0 else (at_ + k + 511) / 512 - q) (hK : q + c ≤ K) (hb : at_ + k + 512 < 9223372036854775808) {Kp : World → World → Prop} {A1 A2 : World → Prop} (r1 : ∀ A, A1 A → A.cell? ⟨b1, o1, none⟩ = some (.int .i64 at_)) (r2 : ∀ A, A2 A → A.cell? ⟨b2, o2, none⟩ = some (.int .i64 k)) (h1 : ∀ A B, Kp A B → A1 A → A1 B) (h2 : ∀ A B, Kp A B → A2 A → A2 B) (J Jx : List (Fin K) → World → Prop) (hY : ∀ pre (x : Fin K) W, J pre W → pre.length < c → YieldAt F (n - 1) Tryz.prog l #[.int .i64 ((512 * x.val : Nat) : Int)] W fun e W' =>
   (e = .returned (.bool true) ∧ J (pre ++ [x]) W' ∧ Kp W W') ∨ (e = .returned (.bool false) ∧ Jx (pre ++ [x]) W')) (W : World) (ha1 : A1 W) (ha2 : A2 W) (h0 : J [] W) :
  CallsIn F n Tryz.prog 175 #[.func (.yield l) #[] #[], .pointer (some ⟨b1, o1, none⟩), .pointer (some ⟨b2, o2, none⟩)] W fun e W' => (∃ v, e = .returned v) ∧
   ((∃ ys, ys.map (·.val) = List.range' q c ∧ J ys W') ∨ (∃ pre, True ∧ Jx pre W')) := by
 have hc1 := r1 _ ha1
 have hc2 := r2 _ ha2
 refine callsIn_of_wp Tryz.func175 rfl hF ?_ hro
 simp only [Tryz.ntmps175, List.size_toArray, List.length_cons, List.length_nil, Nat.reduceAdd, Nat.reduceSub, Array.replicate_succ, Array.replicate_zero, List.push_toArray, List.append_toArray, List.nil_append, List.cons_append]
 gi_wp2
 have hi : ∀ i : Nat, ((512 * (q + i) : Nat) : Int) + 512 = ((512 * (q + (i + 1)) : Nat) : Int) := fun i => by omega
 gi_loopw [4] (fun s wr => ∃ (pre : List (Fin K)), s = .int .i64 ((512 * (q + pre.length) : Nat) : Int) ∧ pre.map (·.val) = List.range' q pre.length ∧ pre.length ≤ c ∧ J pre wr ∧ A1 wr ∧ A2 wr)
  (fun s _ => match s with | .int _ s => (512 * (q + c) - s).toNat | _ => 0)
 case atStart =>
  refine ⟨[], ?_, rfl, by simp, h0, ha1, ha2⟩
  simp only [List.length_nil, Nat.add_zero]
  congr 1
  omega
 case round =>
  obtain ⟨pre, rfl, hp, hle, hJ, hA1, hA2⟩ := hrel
  have hd1 := r1 _ hA1
  have hd2 := r2 _ hA2
  by_cases hlt : pre.length < c
  ·have hk0 : 0 < k := Nat.pos_of_ne_zero (fun h => by rw [if_pos h] at hc; omega)
   have hcc : c = (at_ + k + 511) / 512 - q := by rw [hc, if_neg (by omega)]
   obtain ⟨fn, tmps, assign, body, hy, hR⟩ := hY pre ⟨q + pre.length, by omega⟩ wr hJ hlt
   push_cast at hy
   gi_wp2
   refine ⟨hn, hR.mono ?_⟩
   rintro e W3 (⟨rfl, hJ3, hk3⟩ | ⟨rfl, hJx3⟩)
   ·have hA13 := h1 _ _ hk3 hA1
    have hA23 := h2 _ _ hk3 hA2
    have hd13 := r1 _ hA13
    have hd23 := r2 _ hA23
    gi_wp2
    go_roundw
    case rel =>
     refine ⟨pre ++ [⟨q + pre.length, by omega⟩], ?_, ?_, by simp; omega, hJ3, hA13, hA23⟩
     ·congr 1; simp; omega
     ·simp only [List.map_append, hp, List.length_append, List.length_cons, List.length_nil, Nat.zero_add]
      rw [List.range'_1_concat]; rfl
    case measure => simp; omega
   ·gi_wp2
    refine bodyPost_ret (results_none rfl _ _ _) rfl ?_
    exact ⟨⟨_, rfl⟩, .inr ⟨pre ++ [⟨q + pre.length, by omega⟩], trivial, hJx3⟩⟩
  ·have he : pre.length = c := by omega
   have hp' : pre.map (·.val) = List.range' q c := he ▸ hp
   by_cases hk0 : k = 0
   ·have hz : pre = [] := List.length_eq_zero_iff.1 (by rw [he, hc, if_pos hk0])
    rw [hz] at hJ
    subst hk0
    gi_wp2
    go_end0
    exact ⟨⟨_, rfl⟩, .inl hJ⟩
   ·have hcc : c = (at_ + k + 511) / 512 - q := by rw [hc, if_neg (by omega)]
    have hkp : 0 < k := by omega
    gi_wp2
    go_end0
    exact ⟨⟨_, rfl⟩, .inl ⟨_, hp', hJ⟩⟩
theorem j5 {ρ : Env} {rw : Bool} {n : Int} {L : Loc} {w : World} (h : aEs ρ ⟨.cell, .i64 n, rw⟩ L w) : L.ty = .cell ∧ L.blk < w.heap.size ∧ w.cell? ⟨L.blk, L.base, none⟩ = some (.int .i64 n) := by
 obtain ⟨ρ', hle, hs⟩ := h
 obtain ⟨_, vs, hv, hr⟩ := hs.read (p := []) (T := .cell) (x := .i64 n) rfl trivial rfl
 match vs, hv with
 |[v], ⟨hv, _⟩ =>
  have e := hr 0 v rfl
  obtain ⟨rfl, _⟩ : v = .int .i64 n ∧ _ := hv
  have ho : aE L.ty [] = 0 := rfl
  exact ⟨hs.ty, hs.lt, by rw [ho] at e; exact e⟩
theorem pV {ρ : Env} {e : Ent} {L : Loc} {w W : World} (h : aEs ρ e L w) (hb : Below w.heap.size w W) : aEs ρ e L W := by
 obtain ⟨ρ', hle, hs⟩ := h
 exact ⟨ρ', hle, hs.same (hb.block _ hs.lt)⟩
theorem bR (b1 b2 at_ k q c K : Nat) {rw1 rw2 : Bool} (hq : 512 * q ≤ at_) (hq2 : at_ < 512 * q + 512) (hc : c = if k = 0 then 0 else (at_ + k + 511) / 512 - q) (hK : q + c ≤ K) (hb : at_ + k + 512 < 9223372036854775808) (hK2 : 512 * K < 9223372036854775808) :
  GenC Tryz.prog 175 [.ptr b1 [], .ptr b2 []] [(b1, ⟨.cell, .i64 at_, rw1⟩), (b2, ⟨.cell, .i64 k, rw2⟩)] (fun x : Fin K => .i64 (512 * x.val : Nat)) (fun ys => ys.map (·.val) = List.range' q c) c := by
 refine ⟨⟨_, Tryz.func175, rfl, rfl⟩, fun ρ lb w n hl hE => ?_⟩
 obtain ⟨L1, e1, s1⟩ := hE _ (.head _)
 obtain ⟨L2, e2, s2⟩ := hE _ (.tail _ (.head _))
 match lb, hl with
 |[v1, v2], ⟨h1, h2, _⟩ =>
  obtain ⟨L1', g1, rfl⟩ := h1
  obtain ⟨L2', g2, rfl⟩ := h2
  cases e1.symm.trans g1
  cases e2.symm.trans g2
  refine ⟨fun x => .int .i64 (512 * x.val : Nat), fun x => ⟨rfl, by omega, by have := x.isLt; omega⟩, fun l J Jx W hW _ _ hY h0 => ?_⟩
  have k1 := j5 s1
  have k2 := j5 s2
  exact wV (FW none) n trivial (fun h => by cases h) rfl l L1.blk L1.base L2.blk L2.base at_ k q c K hq hq2 hc hK hb (Kp := KpE ρ _) (A1 := aEs ρ ⟨.cell, .i64 at_, rw1⟩ L1) (A2 := aEs ρ ⟨.cell, .i64 k, rw2⟩ L2)
   (fun A hA => (j5 hA).2.2) (fun A hA => (j5 hA).2.2) (fun A B hk hA => hk _ (.head _) L1 e1 hA) (fun A B hk hA => hk _ (.tail _ (.head _)) L2 e2 hA) J Jx
   hY W (pV s1 hW) (pV s2 hW) h0
abbrev tDv : Ty := .st [.cell, .cell, .cell, .cell, .cell, .cell, .cell]
abbrev tLo : Ty := .st [.cell, .cell, .arr 512 .cell]
def aAj (S B : B8) (p : Nat) : B8 := S.take p ++ B ++ S.drop (p + B.length)
theorem jE {S B : B8} {p : Nat} (h : p + B.length ≤ S.length) : (aAj S B p).length = S.length := by
 simp [aAj]; omega
theorem aGA (k : Int) : AC Tryz.prog 32 [.i64 k] 0 [] ⟨.ptr 0 [], [], [(tDv, .node [.i64 (max 0 (min k 16777216)), .nilslice, .nilslice, .nilslice, .i64 0, .bool false, .nilptr])]⟩ := by
 refine acA tab mix Tryz.func32 {} ?_
 refine gob ?_
 refine aF [0]
theorem aEj (S B : B8) (p o k N : Nat) (cap cap2 : Option Nat) (hN : S.length = N) (h : p + k ≤ N) (hB : o + k ≤ B.length) (h0 : 0 < k) (hS : N < 4611686018427387904) :
  AC Tryz.prog 76 [.slice 0 [] 0 N cap, .i64 p, .slice 1 [] o k cap2] 2 [(0, some ⟨.row .cell, .u8s S, true⟩), (1, some ⟨.row .cell, .u8s B, false⟩)] ⟨.slice 0 [] 0 N cap, [(0, some (.u8s (aAj S ((B.drop o).take k) p)))], []⟩ := by
 have hk : ((B.drop o).take k).length = k := by rw [List.length_take, List.length_drop]; omega
 have e : aAj S ((B.drop o).take k) p = List.take (0 + p) S ++ List.take (k.min (N - p)) (List.drop o B) ++ List.drop (0 + p + k.min (N - p)) S := by
  have : k.min (N - p) = k := Nat.min_eq_left (by omega)
  rw [aAj, hk, this, Nat.zero_add]
 rw [e]
 refine acA tab mix Tryz.func76 {} ?_
 refine gob ?_
 refine aF [0, 1]
structure Lo where
 at' : Nat
 n : Nat
 bytes : B8
def loD (l : Lo) : D := .node [.i64 l.at', .i64 l.n, .u8s l.bytes]
abbrev b6 (l : List Lo) : D := .node (l.map loD)
theorem aBn (s : Nat → Nat) : ∀ l : List Lo, D.rens s (l.map loD) = l.map loD
 |[] => rfl
 |a :: l => congrArg (loD a :: ·) (aBn s l)
instance (l : List Lo) : Pure (b6 l) := ⟨fun s => congrArg D.node (aBn s l)⟩
def oY (b : Nat) : List Lo → D
 |[] => .nilslice
 |a :: l => .slice b [] 0 (l.length + 1) none
abbrev fB (b : Nat) : List Lo → Mem
 |[] => []
 |a :: l => [(b, some ⟨.row tLo, b6 (a :: l), true⟩)]
theorem aEh : ∀ {l : List Lo}, (∀ x ∈ l, x.bytes.length = 512) → iY (aD tLo) (l.map loD)
 |[], _ => trivial
 |s :: l, h => ⟨⟨rfl, rfl, h s (by simp), trivial⟩, aEh fun x hx => h x (by simp [hx])⟩
abbrev dvD (most N : Nat) (cap : Option Nat) (N2 : Nat) (cap2 : Option Nat) (lo : D) (st : Nat) : D := .node [.i64 most, .slice 1 [] 0 N cap, .slice 2 [] 0 N2 cap2, lo, .i64 st, .bool false, .nilptr]
theorem aAK (most N : Nat) (cap : Option Nat) (N2 : Nat) (cap2 : Option Nat) (ls : List Lo) (st : Nat) :
  AC Tryz.prog 130 [.ptr 0 []] 4 [(0, some ⟨tDv, dvD most N cap N2 cap2 (oY 3 ls) st, false⟩)] ⟨.i64 0, [], []⟩ := by
 refine acA tab mix Tryz.func130 {} ?_
 cases ls
 all_goals
  refine gob ?_
  refine aF [0, 1, 2, 3]
theorem iM (p k : Nat) (hp : p < 9223372036854775808) (hk : k < 9223372036854775808) : AC Tryz.prog 165 [.i64 p, .i64 k] 0 [] ⟨.fn 175 [] [.ptr 0 [], .ptr 1 []], [], [(.cell, .i64 p), (.cell, .i64 k)]⟩ := by
 refine acA tab mix Tryz.func165 {} ?_
 refine gob ?_
 refine aF [0, 1]
abbrev loF (S : B8) (q : Nat) : Lo := ⟨512 * q, 512, (S.drop (512 * q)).take 512⟩
theorem lQ (S : B8) (N x : Nat) (h : 512 * x + 512 ≤ N) :
  List.take 0 (List.replicate 512 0) ++ List.take ((N - 512 * x).min (512 - 0)) (List.drop (0 + 512 * x) S) ++ List.drop (0 + (N - 512 * x).min (512 - 0)) (List.replicate 512 0) = (loF S x).bytes := by
 have e : (N - 512 * x).min (512 - 0) = 512 := Nat.min_eq_right (by omega)
 rw [e]; simp
theorem bD (S : B8) (x : Nat) (h : 512 * x + 512 ≤ S.length) : (loF S x).bytes.length = 512 := by
 simp; omega
theorem k9 {S : B8} {x a : Nat} {b : B8} (h1 : a = 512) (h2 : b = (loF S x).bytes) : D.node [.i64 (512 * x : Nat), .i64 (a : Nat), .u8s b] = loD (loF S x) := by subst h1; subst h2; rfl
theorem sI {P : D → Prop} : ∀ {a b : List D}, iY P a → iY P b → iY P (a ++ b)
 |[], _, _, h => h
 |_ :: _, _, ⟨h1, h2⟩, h => ⟨h1, sI h2 h⟩
theorem aDr {ls : List Lo} (h : ∀ x ∈ ls, x.bytes.length = 512) {S : B8} {x a : Nat} {b : B8} (h1 : a = 512) (h2 : b = (loF S x).bytes) (h3 : (loF S x).bytes.length = 512) :
  iY (aD tLo) ((ls.map loD).take ls.length ++ [D.node [.i64 (512 * x : Nat), .i64 (a : Nat), .u8s b]]) := by
 rw [k9 h1 h2, List.take_of_length_le (by simp)]
 exact sI (aEh h) ⟨⟨rfl, rfl, h3, trivial⟩, trivial⟩
theorem aDq {l0 : Lo} {ls : List Lo} {S : B8} {x a : Nat} {b : B8} (h1 : a = 512) (h2 : b = (loF S x).bytes) :
  D.node (((l0 :: ls).map loD).take (ls.length + 1) ++ [D.node [.i64 (512 * x : Nat), .i64 (a : Nat), .u8s b]]) = b6 ((l0 :: ls) ++ [loF S x]) := by
 rw [k9 h1 h2, List.take_of_length_le (by simp)]
 simp [b6]
section
variable (most N : Nat) (cap : Option Nat) (N2 : Nat) (cap2 : Option Nat) (ls : List Lo) (st p k : Nat) (S : B8) (hS : S.length = N) (hq : p + k ≤ N) (hN : N < 70368744177664)
include most N cap N2 cap2 ls st p k S hS hq hN
theorem aCh :
  AC Tryz.prog 91 [.ptr 0 [], .i64 p, .i64 k] 4
   [(0, some ⟨tDv, dvD most N cap N2 cap2 (oY 3 ls) st, false⟩), (1, some ⟨.row .cell, .u8s S, false⟩)]
   ⟨.tup [.slice 4 [] 0 (((p : Int) + (k : Int)).toNat - p) none, .i64 0], [], [(.row .cell, .u8s ((S.drop (0 + p)).take (((p : Int) + (k : Int)).toNat - p)))]⟩ := by
 have hu := aAK most N cap N2 cap2 ls st
 have hc := mX S (0 + p) (((p : Int) + (k : Int)).toNat - p) (cap.map (· - p)) (by omega) (by omega)
 refine acA tab mix Tryz.func91 {} ?_
 cases ls
 ·refine gob ?_
  refine aB hu [0, 1, 2, 3] ?_
  refine aB hc [1] ?_
  refine aF [0, 1, 2, 3, 4]
 ·refine gob ?_
  refine aB hu [0, 1, 2, 3] ?_
  refine aB hc [1] ?_
  refine aF [0, 1, 2, 3, 4]
theorem mS :
  AC Tryz.prog 91 [.ptr 0 [], .i64 p, .i64 k] 4
   [(0, some ⟨tDv, dvD most N cap N2 cap2 (oY 3 ls) st, false⟩), (1, some ⟨.row .cell, .u8s S, false⟩)]
   ⟨.tup [.slice 4 [] 0 k none, .i64 0], [], [(.row .cell, .u8s ((S.drop p).take k))]⟩ := by
 have h := aCh most N cap N2 cap2 ls st p k S hS hq hN
 rw [show ((p : Int) + (k : Int)).toNat - p = k by omega, Nat.zero_add] at h
 exact h
end
theorem aEH (most N o : Nat) (S : B8) (c : Option Nat) (hS : o + N ≤ S.length) (hN : N ≤ most) (hm : most ≤ 16777216) :
  AC Tryz.prog 33 [.ptr 0 [], .slice 1 [] o N c] 2
   [(0, some ⟨tDv, .node [.i64 most, .nilslice, .nilslice, .nilslice, .i64 0, .bool false, .nilptr], true⟩), (1, some ⟨.row .cell, .u8s S, false⟩)]
   ⟨.tup [], [(0, some (.node [.i64 most, .slice 2 [] 0 N none, .slice 3 [] 0 N none, .nilslice, .i64 0, .bool false, .nilptr]))], [(.row .cell, .u8s ((S.drop o).take N)), (.row .cell, .u8s ((S.drop o).take N))]⟩ := by
 have hc := mX S o N c (by omega) (by omega)
 refine acA tab mix Tryz.func33 {} ?_
 refine gob ?_
 refine aB hc [1] ?_
 refine aB hc [1] ?_
 refine aF [0, 1, 2, 3]





section
variable (key : B8) (hk : key.length = 32)
include hk
end








theorem aD9 (n : BitVec 16) : AC Tryz.prog 83 [.u16 n] 0 [] ⟨.slice 0 [] 0 2 none, [], [(.row .cell, .u8s (nbF (n.setWidth 64) 2))]⟩ := by
 refine acA tab mix Tryz.func83 {} ?_
 refine go ?_
 refine cM (aBv (n.setWidth 64) 2 (by decide)) [] ?_
 refine aF [0]
abbrev aDx (c p : Nat) : D := .node [.i64 c, .i64 p]
theorem aEf (c p : Nat) (hc : 1 ≤ c) (hc2 : c ≤ 64) (hp : 1 ≤ p) (hp2 : p ≤ 2) : AC Tryz.prog 80 [aDx c p] 0 [] ⟨.bool true, [], []⟩ := by
 have q0 : (!(D.node [.i64 c, .i64 p]).eqb (.node [.i64 0, .i64 0])) = true := by
  have : decide ((c : Int) = 0) = false := decide_eq_false (by omega)
  simp [D.eqb, D.eqbs, gL, this]; omega
 have q1 : decide ((c : Int) ≥ 1) = true := decide_eq_true (by omega)
 have q2 : decide ((c : Int) ≤ 64) = true := decide_eq_true (by omega)
 have q3 : decide ((p : Int) ≥ 1) = true := decide_eq_true (by omega)
 have q4 : decide ((p : Int) ≤ 2) = true := decide_eq_true (by omega)
 refine acA tab mix Tryz.func80 {} ?_
 refine gob ?_
 rw [q0]
 refine gob ?_
 rw [q1]
 refine gob ?_
 rw [q4]
 refine aF []
theorem aCA (bs : B8) (o k n : Nat) (cap : Option Nat) (h : o + k ≤ bs.length) (hk : k ≤ n) (hn : n ≤ 65536) :
  AC Tryz.prog 81 [.slice 0 [] o k cap, .i64 n] 1 [(0, some ⟨.row .cell, .u8s bs, false⟩)] ⟨.tup [.slice 1 [] 0 n none, .i64 0], [], [(.row .cell, .u8s ((bs.drop o).take k ++ List.replicate (n - k) 0))]⟩ := by
 refine acA tab mix Tryz.func81 {} ?_
 refine gob ?_
 have q1 : Nat.min k n = k := Nat.min_eq_left hk
 have e : List.take 0 (List.replicate n (0 : BitVec 8)) ++ List.take (Nat.min k n) (List.drop o bs) ++ List.drop (0 + Nat.min k n) (List.replicate n 0) = (bs.drop o).take k ++ List.replicate (n - k) 0 := by
  rw [q1, Nat.zero_add, List.drop_replicate]; rfl
 refine aF [0, 1] (h3 := ?_)
 (repeat' (first | exact trivial | refine And.intro ⟨_, rfl, rfl, ?_, id⟩ ?_ | refine And.intro ⟨_, rfl, rfl, ?_, fun _ => rfl⟩ ?_)) <;> first | rfl | exact congrArg D.u8s e
theorem aBC (a b c d : B8) (ha : a.length = 9) (hb : b.length = 1) (hc : c.length = 2) (hd : d.length = 1) (ca cb cd : Option Nat) :
  AC Tryz.prog 82 [.slice 0 [] 0 4 (some 4)] 5 [(0, some ⟨.row .cell, .node [.slice 1 [] 0 9 ca, .slice 2 [] 0 1 cb, .slice 3 [] 0 2 none, .slice 4 [] 0 1 cd], true⟩),
   (1, some ⟨.row .cell, .u8s a, false⟩), (2, some ⟨.row .cell, .u8s b, false⟩), (3, some ⟨.row .cell, .u8s c, false⟩), (4, some ⟨.row .cell, .u8s d, false⟩)]
   ⟨.slice 5 [] 0 13 none, [], [(.row .cell, .u8s (a ++ b ++ c ++ d))]⟩ := by
 refine acA tab mix Tryz.func82 ⟨[], [3, 11]⟩ ?_
 refine go ?_
 refine o0 5 ?_
 refine gob ?_
 refine cM (oB (0 + (9 : Int) + 1 + 2 + 1) (by omega) (by omega)) [] ?_
 refine o0 5 ?_
 refine gob ?_
 refine ⟨0, ?_⟩
 refine gob ?_
 refine ⟨0, ?_⟩
 refine gob ?_
 refine ⟨0, ?_⟩
 refine gob ?_
 refine ⟨0, ?_⟩
 refine gob ?_
 refine aF [0, 1, 2, 3, 4, 9] (h3 := ?_)
 (repeat' (first | exact trivial | refine And.intro ⟨_, rfl, rfl, ?_, id⟩ ?_ | refine And.intro ⟨_, rfl, rfl, ?_, fun _ => rfl⟩ ?_)) <;> first | rfl | skip
 have t1 : List.take 9 a = a := List.take_of_length_le (by omega)
 have t2 : List.take 1 b = b := List.take_of_length_le (by omega)
 have t3 : List.take 2 c = c := List.take_of_length_le (by omega)
 have t4 : List.take 1 d = d := List.take_of_length_le (by omega)
 have k2 : List.take 10 (a ++ b) = a ++ b := List.take_of_length_le (by simp only [List.length_append]; omega)
 have k3 : List.take 12 (a ++ b ++ c) = a ++ b ++ c := List.take_of_length_le (by simp only [List.length_append]; omega)
 exact congrArg D.u8s (show List.take 12 (List.take 10 (List.take 9 (List.take 9 a) ++ List.take 1 b) ++ List.take 2 c) ++ List.take 1 d = a ++ b ++ c ++ d by rw [t1, t1, t2, k2, t3, k3, t4])
theorem aDc (c p : Nat) (n : BitVec 32) (hc : 1 ≤ c) (hc2 : c ≤ 64) (hp : 1 ≤ p) (hp2 : p ≤ 2) (hn : n.toNat ≤ 65535) : AC Tryz.prog 92 [aDx c p, .u32 n] 0 [] ⟨.i64 ((8 + (n.toNat : Int) * p) * 512), [], []⟩ := by
 have hm := aEf c p hc hc2 hp hp2
 have hx : (n.toNat : Int) * p ≤ 131070 := by
  have := Nat.mul_le_mul hn hp2
  rw [← Int.natCast_mul]
  omega
 have hx0 : 0 ≤ (n.toNat : Int) * p := by rw [← Int.natCast_mul]; omega
 refine acA tab mix Tryz.func92 {} ?_
 refine gob ?_
 refine aB hm [] ?_
 refine brN ?_ (decide_eq_false (show ¬ 65535 < n.toNat by omega))
 refine gob ?_
 refine aF []
def wD (c p : Nat) : B8 := [82, 69, 76, 73, 81, 85, 65, 82, 89] ++ [1] ++ nbF ((BitVec.ofInt 16 c).setWidth 64) 2 ++ [BitVec.ofInt 8 p]
theorem i1 (c p : Nat) : (wD c p).length = 13 := by simp [wD, aR]
section
variable (c p : Nat) (hc : 1 ≤ c) (hc2 : c ≤ 64) (hp : 1 ≤ p) (hp2 : p ≤ 2)
include c p hc hc2 hp hp2
theorem aFD : AC Tryz.prog 56 [aDx c p] 0 [] ⟨.tup [.slice 0 [] 0 512 none, .i64 0], [], [(.row .cell, .u8s (wD c p ++ List.replicate (512 - 13) 0))]⟩ := by
 have hm := aEf c p hc hc2 hp hp2
 have h1 := aD9 (BitVec.ofInt 16 c)
 have hl := aR ((BitVec.ofInt 16 c).setWidth 64) 2
 have h2 := aBC [82, 69, 76, 73, 81, 85, 65, 82, 89] [1] (nbF ((BitVec.ofInt 16 c).setWidth 64) 2) [BitVec.ofInt 8 p] rfl rfl hl rfl (some 9) (some 1) (some 1)
 rw [show [82, 69, 76, 73, 81, 85, 65, 82, 89] ++ [1] ++ nbF ((BitVec.ofInt 16 c).setWidth 64) 2 ++ [BitVec.ofInt 8 p] = wD c p from rfl] at h2
 have h3 := aCA (wD c p) 0 13 512 none (by rw [i1]; decide) (by decide) (by decide)
 rw [List.drop_zero, List.take_of_length_le (by rw [i1]; decide)] at h3
 generalize wD c p = Y at h2 h3 ⊢
 generalize nbF ((BitVec.ofInt 16 c).setWidth 64) 2 = Z at h1 h2
 refine acA tab mix Tryz.func56 {} ?_
 refine gob ?_
 refine aB hm [] ?_
 refine aB h1 [] ?_
 refine aB h2 [5, 1, 2, 3, 4] ?_
 refine aB h3 [6] ?_
 refine aF [7]
theorem aFC : AC Tryz.prog 29 [aDx c p] 0 [gR] ⟨.u8s (j0 (wD c p ++ List.replicate (512 - 13) 0)), [], []⟩ := by
 have h1 := aFD c p hc hc2 hp hp2
 have hl : (wD c p ++ List.replicate (512 - 13) 0).length = 512 := by simp [i1]
 generalize wD c p ++ List.replicate (512 - 13) 0 = Y at h1 hl ⊢
 have h2 := of1_ac Y 0 512 none (by omega) (by decide) (by decide)
 rw [List.drop_zero, List.take_of_length_le (by omega)] at h2
 have hy := bE Y
 generalize j0 Y = z at h2 hy ⊢
 refine acA tab mix Tryz.func29 {} ?_
 refine gob ?_
 refine aB h1 [] ?_
 refine aB h2 [3, 2] ?_
 refine aF []
end
def twI (t : B8) : Nat → B8 × BitVec 8
 |0 => (t, 0)
 |n + 1 => ((twI t n).1.set n ((twI t n).1.getD n 0 <<< 1 ||| (twI t n).2), (twI t n).1.getD n 0 >>> 7)
def twF (t : B8) : B8 := if (twI t 16).2 = 0 then (twI t 16).1 else (twI t 16).1.set 0 ((twI t 16).1.getD 0 0 ^^^ 135)
theorem iI (t : B8) : ∀ n, (twI t n).1.length = t.length
 |0 => rfl
 |n + 1 => by rw [twI, List.length_set, iI t n]
theorem iJ (t : B8) : (twF t).length = t.length := by
 unfold twF
 split
 ·exact iI t 16
 ·rw [List.length_set, iI t 16]
theorem pO (t : B8) (ht : t.length = 16) : AC Tryz.prog 133 [.u8s t] 0 [] ⟨.u8s (twF t), [], []⟩ := by
 refine fM tab mix Tryz.func133 rfl (by kernel_rfl) (by kernel_rfl) (by kernel_rfl) ⟨[9], []⟩ ?_
 refine stN ?_
 refine aT Nat (fun n => [(1, .ptr 0 []), (2, .ptr 1 []), (3, .u8 (twI t n).2), (5, .i64 n)]) (fun n => [(0, some ⟨t16, .u8s (twI t n).1, true⟩), (1, some ⟨t16, .u8s (List.replicate 16 0), true⟩)]) 2
  (fun n => n ≤ 16) (fun n => 16 - n) 0 [0, 1] (Nat.zero_le _) ?_ ?_
 ·exact bA rfl ⟨rfl, rfl, rfl, rfl, trivial⟩ ⟨⟨_, rfl, rfl, rfl, id⟩, ⟨_, rfl, rfl, rfl, id⟩, trivial⟩ rfl
 intro n hn
 have hl := iI t n
 rw [ht] at hl
 refine stN ?_
 refine Br.split (fun h => ?_) (fun h => ?_)
 ·have hn : n < 16 := by have := of_decide_eq_true h; omega
  refine stN ?_
  refine fS (n + 1) [0, 1] ?_ ?_ ?_
  ·omega
  ·omega
  ·exact bA rfl ⟨rfl, rfl, rfl, rfl, trivial⟩ ⟨⟨_, rfl, rfl, rfl, id⟩, ⟨_, rfl, rfl, rfl, id⟩, trivial⟩ rfl
 ·have hn : n = 16 := by have := of_decide_eq_false h; omega
  subst hn
  have hF : twF t = if (twI t 16).2 = 0 then (twI t 16).1 else (twI t 16).1.set 0 ((twI t 16).1.getD 0 0 ^^^ 135) := rfl
  have hFl := iJ t
  rw [ht] at hFl
  generalize twF t = x at hF hFl ⊢
  generalize (twI t 16).1 = a at hF hl ⊢
  generalize (twI t 16).2 = c at hF ⊢
  refine uO Unit (fun _ => [(1, .ptr 0 []), (2, .ptr 1 [])]) (fun _ => [(0, some ⟨t16, .u8s x, true⟩), (1, some ⟨t16, .u8s (List.replicate 16 0), true⟩)]) 2 (fun _ => True) ?_ ?_
  ·refine stN ?_
   refine Br.split (fun h => ?_) (fun h => ?_)
   ·have h : ¬ c = 0 := by simpa using h
    rw [if_neg h] at hF
    refine stN ?_
    refine gZ () [0, 1] trivial (bA rfl ⟨rfl, rfl, trivial⟩ ⟨⟨_, rfl, rfl, congrArg D.u8s hF.symm, id⟩, ⟨_, rfl, rfl, rfl, id⟩, trivial⟩ rfl)
   ·have h : c = 0 := by simpa using h
    rw [if_pos h] at hF
    refine gZ () [0, 1] trivial (bA rfl ⟨rfl, rfl, trivial⟩ ⟨⟨_, rfl, rfl, congrArg D.u8s hF.symm, id⟩, ⟨_, rfl, rfl, rfl, id⟩, trivial⟩ rfl)
  intro _ _
  refine stN ?_
  refine oX [] rfl rfl trivial rfl
theorem qX (s k : B8) (hs : s.length = 16) (hk : k.length = 16) : AC Tryz.prog 132 [.u8s s, .u8s k] 0 [] ⟨.u8s (m8 s k), [], []⟩ := by
 refine fM tab mix Tryz.func132 rfl (by kernel_rfl) (by kernel_rfl) (by kernel_rfl) {} ?_
 refine stN ?_
 refine aT Nat (fun n => [(2, .ptr 0 []), (4, .ptr 2 []), (7, .u8s k), (8, .i64 n)]) (fun n => [(0, some ⟨t16, .u8s (aCw s k n), true⟩), (2, some ⟨t16, .u8s (List.replicate 16 0), true⟩)]) 3
  (fun n => n ≤ 16) (fun n => 16 - n) 0 [0, 1, 2] (Nat.zero_le _) ?_ ?_
 ·exact bA rfl ⟨rfl, rfl, rfl, rfl, trivial⟩ ⟨⟨_, rfl, rfl, rfl, id⟩, ⟨_, rfl, rfl, rfl, id⟩, trivial⟩ rfl
 intro n hn
 have hl := eS s k n
 rw [hs] at hl
 refine stN ?_
 refine Br.split (fun h => ?_) (fun h => ?_)
 ·have hn : n < 16 := by have := of_decide_eq_true h; omega
  refine stN ?_
  refine fS (n + 1) [0, 1, 2] ?_ ?_ ?_
  ·omega
  ·omega
  ·exact bA rfl ⟨rfl, rfl, rfl, rfl, trivial⟩ ⟨⟨_, rfl, rfl, rfl, id⟩, ⟨_, rfl, rfl, rfl, id⟩, trivial⟩ rfl
 ·have hn : n = 16 := by have := of_decide_eq_false h; omega
  subst hn
  refine stN ?_
  refine oX [] rfl rfl trivial rfl
def aED (s : BitVec 64) : Nat → B8 × BitVec 64
 |0 => (List.replicate 16 0, s)
 |n + 1 => ((aED s n).1.set n ((aED s n).2.setWidth 8), (aED s n).2 >>> 8)
def xL (s : BitVec 64) : B8 := (aED s 8).1
theorem jF (s : BitVec 64) : ∀ n, (aED s n).1.length = 16
 |0 => rfl
 |n + 1 => by rw [aED, List.length_set, jF s n]
abbrev tX : Ty := .st [.cell, .cell]
theorem zV (k2 : List B8) (s : BitVec 64) (h2 : Rows 15 16 k2) :
  AC Tryz.prog 131 [.ptr 0 [], .u64 s] 3 [(0, some ⟨tX, .node [.ptr 1 [], .ptr 2 []], true⟩), (2, some ⟨tC, bP k2, true⟩)] ⟨.u8s (iD k2 (xL s) 14), [], []⟩ := by
 refine fM tab mix Tryz.func131 rfl (by kernel_rfl) (by kernel_rfl) (by kernel_rfl) {} ?_
 refine stN ?_
 refine aT Nat (fun n => [(0, .ptr 0 []), (1, .u64 (aED s n).2), (4, .ptr 3 []), (5, .ptr 4 []), (7, .i64 n)])
  (fun n => [(0, some ⟨tX, .node [.ptr 1 [], .ptr 2 []], true⟩), (2, some ⟨tC, bP k2, true⟩), (3, some ⟨t16, .u8s (List.replicate 16 0), true⟩), (4, some ⟨t16, .u8s (aED s n).1, true⟩)]) 5
  (fun n => n ≤ 8) (fun n => 8 - n) 0 [0, 1, 2, 3, 4] (Nat.zero_le _) ?_ ?_
 ·exact bA rfl ⟨rfl, rfl, rfl, rfl, rfl, trivial⟩ ⟨⟨_, rfl, rfl, rfl, id⟩, ⟨_, rfl, rfl, (aC _ k2).symm, id⟩, ⟨_, rfl, rfl, rfl, id⟩, ⟨_, rfl, rfl, rfl, id⟩, trivial⟩ rfl
 intro n hn
 have hl := jF s n
 refine stN ?_
 refine Br.split (fun h => ?_) (fun h => ?_)
 ·have hn : n < 8 := by have := of_decide_eq_true h; omega
  refine stN ?_
  refine fS (n + 1) [0, 1, 2, 3, 4] ?_ ?_ ?_
  ·omega
  ·omega
  ·exact bA rfl ⟨rfl, rfl, rfl, rfl, rfl, trivial⟩ ⟨⟨_, rfl, rfl, rfl, id⟩, ⟨_, rfl, rfl, (aC _ k2).symm, id⟩, ⟨_, rfl, rfl, rfl, id⟩, ⟨_, rfl, rfl, rfl, id⟩, trivial⟩ rfl
 ·have hn : n = 8 := by have := of_decide_eq_false h; omega
  subst hn
  have he := qP k2 (xL s) hl h2.1 h2.2
  have hel := bV k2 (xL s) hl 14
  have hf : (aED s 8).1 = xL s := rfl
  rw [hf] at hl ⊢
  generalize iD k2 (xL s) 14 = x at he hel ⊢
  generalize xL s = y at he hl ⊢
  refine stN ?_
  refine bY he [2] rfl rfl ⟨⟨_, rfl, rfl, (aC _ k2).symm, id⟩, trivial⟩ rfl rfl ?_
  refine stN ?_
  refine oX [0, 1, 2] rfl rfl ⟨⟨_, rfl, rfl, rfl, id⟩, ⟨_, rfl, rfl, (aC _ k2).symm, id⟩, trivial⟩ rfl
def aBQ (f : B8 → B8) (t p : B8) : B8 := m8 (f (m8 p t)) t
def i3 (f : B8 → B8) (bs : B8) (o : Nat) (out t : B8) : Nat → B8 × B8
 |0 => (out, t)
 |i + 1 => ((i3 f bs o out t i).1 ++ aBQ f (i3 f bs o out t i).2 ((bs.drop (o + 16 * i)).take 16), twF (i3 f bs o out t i).2)
def ovI (f : B8 → B8) (k2 : List B8) (bs : B8) (o : Nat) (s : BitVec 64) : Nat → B8
 |0 => []
 |j + 1 => (i3 f bs (o + 512 * j) (ovI f k2 bs o s j) (iD k2 (xL (s + BitVec.ofNat 64 j)) 14) 32).1
theorem gH {f : B8 → B8} (hf : ∀ p, p.length = 16 → (f p).length = 16) {t p : B8} (hp : p.length = 16) : (aBQ f t p).length = 16 := by
 rw [aBQ, aL, hf _ (by rw [aL, hp])]
theorem f5 {f : B8 → B8} (hf : ∀ p, p.length = 16 → (f p).length = 16) {bs : B8} {o : Nat} {out t : B8} (ht : t.length = 16) (ho : o + 512 ≤ bs.length) :
  ∀ i, i ≤ 32 → (i3 f bs o out t i).1.length = out.length + 16 * i ∧ (i3 f bs o out t i).2.length = 16
 |0, _ => ⟨rfl, ht⟩
 |i + 1, hi => by
  obtain ⟨h1, h2⟩ := f5 (out := out) hf ht ho i (by omega)
  rw [i3]
  refine ⟨?_, ?_⟩
  ·rw [List.length_append, h1, gH hf (by rw [List.length_take, List.length_drop]; omega)]; omega
  ·show (twF _).length = 16
   rw [iJ, h2]
theorem jG (s : BitVec 64) : (xL s).length = 16 := jF s 8
theorem fR {f : B8 → B8} (hf : ∀ p, p.length = 16 → (f p).length = 16) (k2 : List B8) {bs : B8} {o : Nat} (s : BitVec 64) {m : Nat} (hm : o + 512 * m ≤ bs.length) :
  ∀ j, j ≤ m → (ovI f k2 bs o s j).length = 512 * j
 |0, _ => rfl
 |j + 1, hj => by
  rw [ovI, (f5 hf (bV k2 _ (jG _) 14) (by omega) 32 (Nat.le_refl _)).1, fR hf k2 s hm j (by omega)]; omega
def capI : Option Nat → Nat → Option Nat
 |c, 0 => c
 |c, j + 1 => (capI c j).map (· - 512)
theorem d8 {b a a' l l' : Nat} {c c' : Option Nat} (h1 : a = a') (h2 : l = l') (h3 : c = c') : some (D.slice b [] a l c) = some (D.slice b [] a' l' c') := by rw [h1, h2, h3]
set_option maxHeartbeats 4000000 in
theorem aCC (T : Ty) (hT : T = .row .cell ∨ ∃ n, T = .arr n .cell) (g : Nat) (f : B8 → B8) (k1 k2 : List B8) (h2 : Rows 15 16 k2) (hg : ∀ p, p.length = 16 → AC Tryz.prog g [.ptr 0 [], .u8s p] 1 [(0, some ⟨tC, bP k1, true⟩)] ⟨.u8s (f p), [], []⟩) (hf : ∀ p, p.length = 16 → (f p).length = 16) (bs : B8) (o m : Nat) (cap : Option Nat) (s : BitVec 64) (hm : o + 512 * m ≤ bs.length) (hm2 : m ≤ 128) (hbl : bs.length < 9223372036854775808) :
  AC Tryz.prog 98 [.ptr 0 [], .u64 s, .slice 3 [] o (512 * m) cap, .fn g [.ptr 1 []] []] 4
   [(0, some ⟨tX, .node [.ptr 1 [], .ptr 2 []], true⟩), (1, some ⟨tC, bP k1, true⟩), (2, some ⟨tC, bP k2, true⟩), (3, some ⟨T, .u8s bs, false⟩)]
   ⟨.tup [.slice 4 [] 0 (512 * m) none, .i64 0], [], [(.row .cell, .u8s (ovI f k2 bs o s m))]⟩ := by
 have hrem : Int.tmod ((512 * m : Nat) : Int) 512 = 0 := by
  rw [show Int.tmod ((512 * m : Nat) : Int) 512 = ((512 * m % 512 : Nat) : Int) from (Int.ofNat_tmod (512 * m) 512).symm]
  omega
 rcases hT with rfl | ⟨n, rfl⟩
 ·refine fM tab mix Tryz.func98 rfl (by kernel_rfl) (by kernel_rfl) (by kernel_rfl) {} ?_
  repeat first | rw [hrem] | refine st1 ?_
  refine Br.no rfl ?_
  refine stN ?_
  refine Br.no rfl ?_
  refine stN ?_
  refine Br.no rfl ?_
  refine stN ?_
  refine Br.no (decide_eq_false (by omega)) ?_
  refine stN ?_
  refine aT Nat (fun j => [(0, .ptr 0 []), (1, .u64 (s + BitVec.ofNat 64 j)), (2, .slice 3 [] (o + 512 * j) (512 * m - 512 * j) (capI cap j)), (3, .fn g [.ptr 1 []] []), (10, .slice 4 [] 0 (512 * j) none)])
   (fun j => [(0, some ⟨tX, .node [.ptr 1 [], .ptr 2 []], true⟩), (1, some ⟨tC, bP k1, true⟩), (2, some ⟨tC, bP k2, true⟩), (3, some ⟨.row .cell, .u8s bs, false⟩), (4, some ⟨.row .cell, .u8s (ovI f k2 bs o s j), true⟩)]) 5
   (fun j => j ≤ m) (fun j => m - j) 0 [0, 1, 2, 3, 4] (Nat.zero_le _) ?_ ?_
  ·refine bA rfl ⟨rfl, congrArg (fun x => some (D.u64 x)) (BitVec.add_zero s).symm, rfl, rfl, rfl, trivial⟩ ⟨⟨_, rfl, rfl, rfl, id⟩, ⟨_, rfl, rfl, (aC _ k1).symm, id⟩, ⟨_, rfl, rfl, (aC _ k2).symm, id⟩, ⟨_, rfl, rfl, rfl, id⟩, ⟨_, rfl, rfl, rfl, id⟩, trivial⟩ rfl
  intro j hj
  have hl := fR hf k2 s hm j hj
  refine stN ?_
  refine Br.split (fun h => ?_) (fun h => ?_)
  ·have hj : j < m := by have := of_decide_eq_true h; omega
   have hc : ovI f k2 bs o s (j + 1) = (i3 f bs (o + 512 * j) (ovI f k2 bs o s j) (iD k2 (xL (s + BitVec.ofNat 64 j)) 14) 32).1 := rfl
   generalize ovI f k2 bs o s j = out at hl hc ⊢
   have hfa := zV k2 (s + BitVec.ofNat 64 j) h2
   have htl := bV k2 _ (jG (s + BitVec.ofNat 64 j)) 14
   generalize iD k2 (xL (s + BitVec.ofNat 64 j)) 14 = t at hc hfa htl
   refine stN ?_
   refine bY hfa [0, 1, 2] rfl rfl ⟨⟨_, rfl, rfl, rfl, id⟩, ⟨_, rfl, rfl, (aC _ k2).symm, id⟩, trivial⟩ rfl rfl ?_
   refine stN ?_
   have hu : s + BitVec.ofNat 64 j + BitVec.ofNat 64 (Int.toNat 1) = s + BitVec.ofNat 64 (j + 1) := by
    rw [BitVec.add_assoc, ← BitVec.ofNat_add]; rfl
   refine aT Nat (fun i => [(0, .ptr 0 []), (1, .u64 (s + BitVec.ofNat 64 (j + 1))), (2, .slice 3 [] (o + 512 * j) (512 * m - 512 * j) (capI cap j)), (3, .fn g [.ptr 1 []] []), (10, .slice 4 [] 0 (512 * j + 16 * i) none), (11, .ptr 5 []),
     (12, .slice 3 [] (o + 512 * j + 16 * i) (512 - 16 * i) (some (512 - 16 * i)))])
    (fun i => [(0, some ⟨tX, .node [.ptr 1 [], .ptr 2 []], true⟩), (1, some ⟨tC, bP k1, true⟩), (2, some ⟨tC, bP k2, true⟩), (3, some ⟨.row .cell, .u8s bs, false⟩), (4, some ⟨.row .cell, .u8s (i3 f bs (o + 512 * j) out t i).1, true⟩),
     (5, some ⟨t16, .u8s (i3 f bs (o + 512 * j) out t i).2, true⟩)]) 6 (fun i => i ≤ 32) (fun i => 32 - i) 0 [0, 1, 2, 3, 4, 5] (Nat.zero_le _) ?_ ?_
   ·refine bA rfl ⟨rfl, congrArg (fun x => some (D.u64 x)) hu, rfl, rfl, rfl, rfl, d8 rfl rfl rfl, trivial⟩ ⟨⟨_, rfl, rfl, rfl, id⟩, ⟨_, rfl, rfl, (aC _ k1).symm, id⟩, ⟨_, rfl, rfl, (aC _ k2).symm, id⟩, ⟨_, rfl, rfl, rfl, id⟩, ⟨_, rfl, rfl, rfl, id⟩, ⟨_, rfl, rfl, rfl, id⟩, trivial⟩ rfl
   intro i hi
   obtain ⟨s1, s2⟩ := f5 (out := out) hf htl (show o + 512 * j + 512 ≤ bs.length by omega) i hi
   rw [hl] at s1
   refine stN ?_
   refine Br.split (fun h => ?_) (fun h => ?_)
   ·have hi : i < 32 := by have := of_decide_eq_true h; omega
    have hs1 : (i3 f bs (o + 512 * j) out t (i + 1)).1 = (i3 f bs (o + 512 * j) out t i).1 ++ aBQ f (i3 f bs (o + 512 * j) out t i).2 ((bs.drop (o + 512 * j + 16 * i)).take 16) := rfl
    have hs2 : (i3 f bs (o + 512 * j) out t (i + 1)).2 = twF (i3 f bs (o + 512 * j) out t i).2 := rfl
    have hp : ((bs.drop (o + 512 * j + 16 * i)).take 16).length = 16 := by rw [List.length_take, List.length_drop]; omega
    generalize (i3 f bs (o + 512 * j) out t i).1 = O at s1 hs1 ⊢
    generalize (i3 f bs (o + 512 * j) out t i).2 = w at s2 hs1 hs2 ⊢
    have hq : (m8 ((bs.drop (o + 512 * j + 16 * i)).take 16) w).length = 16 := by rw [aL, hp]
    have hfq := hf _ hq
    have hbl2 : (m8 (f (m8 ((bs.drop (o + 512 * j + 16 * i)).take 16) w)) w).length = 16 := by rw [aL, hfq]
    have hwl := iJ w
    rw [s2] at hwl
    refine stN ?_
    refine bY (qX ((bs.drop (o + 512 * j + 16 * i)).take 16) w hp s2) [] rfl rfl trivial rfl rfl ?_
    refine stN ?_
    refine bY (hg _ hq) [1] rfl rfl ⟨⟨_, rfl, rfl, (aC _ k1).symm, id⟩, trivial⟩ rfl rfl ?_
    refine stN ?_
    refine bY (qX _ w hfq s2) [] rfl rfl trivial rfl rfl ?_
    refine stN ?_
    refine ⟨0, ?_⟩
    refine stN ?_
    refine bY (pO w s2) [] rfl rfl trivial rfl rfl ?_
    refine stN ?_
    refine fS (i + 1) [0, 1, 2, 3, 7, 5] ?_ ?_ ?_
    ·omega
    ·omega
    ·refine bA rfl ⟨rfl, rfl, rfl, rfl, d8 rfl ?_ rfl, rfl, d8 ?_ ?_ ?_, trivial⟩ ⟨⟨_, rfl, rfl, rfl, id⟩, ⟨_, rfl, rfl, (aC _ k1).symm, id⟩, ⟨_, rfl, rfl, (aC _ k2).symm, id⟩, ⟨_, rfl, rfl, rfl, id⟩, ⟨_, rfl, rfl, congrArg D.u8s ?_, id⟩, ⟨_, rfl, rfl, congrArg D.u8s hs2.symm, id⟩, trivial⟩ rfl
     ·show 512 * j + 16 * i + 16 = 512 * j + 16 * (i + 1)
      omega
     ·show o + 512 * j + 16 * i + 16 = o + 512 * j + 16 * (i + 1)
      omega
     ·show ((512 - 16 * i : Nat) : Int).toNat - 16 = 512 - 16 * (i + 1)
      omega
     ·show some (512 - 16 * i - 16) = some (512 - 16 * (i + 1))
      rw [show 512 - 16 * i - 16 = 512 - 16 * (i + 1) by omega]
     ·rw [hs1]
      show List.take (512 * j + 16 * i) O ++ List.take 16 (aBQ f w _) = _
      rw [List.take_of_length_le (by omega), List.take_of_length_le (by rw [gH hf hp]; exact Nat.le_refl _)]
   ·have hi : i = 32 := by have := of_decide_eq_false h; omega
    subst hi
    refine stN ?_
    refine fS (j + 1) [0, 1, 2, 3, 4] ?_ ?_ ?_
    ·omega
    ·omega
    ·refine bA rfl ⟨rfl, rfl, d8 ?_ ?_ rfl, rfl, rfl, trivial⟩ ⟨⟨_, rfl, rfl, rfl, id⟩, ⟨_, rfl, rfl, (aC _ k1).symm, id⟩, ⟨_, rfl, rfl, (aC _ k2).symm, id⟩, ⟨_, rfl, rfl, rfl, id⟩, ⟨_, rfl, rfl, congrArg D.u8s hc.symm, id⟩, trivial⟩ rfl
     ·show o + 512 * j + 512 = o + 512 * (j + 1)
      omega
     ·show ((512 * m - 512 * j : Nat) : Int).toNat - 512 = 512 * m - 512 * (j + 1)
      omega
  ·have hj : j = m := by have := of_decide_eq_false h; omega
   subst hj
   refine stN ?_
   refine oX [0, 1, 2, 3, 4] ⟨rfl, rfl⟩ rfl ⟨⟨_, rfl, rfl, rfl, id⟩, ⟨_, rfl, rfl, rfl, id⟩, ⟨_, rfl, rfl, (aC _ k1).symm, id⟩, ⟨_, rfl, rfl, (aC _ k2).symm, id⟩, ⟨_, rfl, rfl, rfl, id⟩, trivial⟩ rfl
 ·refine fM tab mix Tryz.func98 rfl (by kernel_rfl) (by kernel_rfl) (by kernel_rfl) {} ?_
  repeat first | rw [hrem] | refine st1 ?_
  refine Br.no rfl ?_
  refine stN ?_
  refine Br.no rfl ?_
  refine stN ?_
  refine Br.no rfl ?_
  refine stN ?_
  refine Br.no (decide_eq_false (by omega)) ?_
  refine stN ?_
  refine aT Nat (fun j => [(0, .ptr 0 []), (1, .u64 (s + BitVec.ofNat 64 j)), (2, .slice 3 [] (o + 512 * j) (512 * m - 512 * j) (capI cap j)), (3, .fn g [.ptr 1 []] []), (10, .slice 4 [] 0 (512 * j) none)])
   (fun j => [(0, some ⟨tX, .node [.ptr 1 [], .ptr 2 []], true⟩), (1, some ⟨tC, bP k1, true⟩), (2, some ⟨tC, bP k2, true⟩), (3, some ⟨.arr n .cell, .u8s bs, false⟩), (4, some ⟨.row .cell, .u8s (ovI f k2 bs o s j), true⟩)]) 5
   (fun j => j ≤ m) (fun j => m - j) 0 [0, 1, 2, 3, 4] (Nat.zero_le _) ?_ ?_
  ·refine bA rfl ⟨rfl, congrArg (fun x => some (D.u64 x)) (BitVec.add_zero s).symm, rfl, rfl, rfl, trivial⟩ ⟨⟨_, rfl, rfl, rfl, id⟩, ⟨_, rfl, rfl, (aC _ k1).symm, id⟩, ⟨_, rfl, rfl, (aC _ k2).symm, id⟩, ⟨_, rfl, rfl, rfl, id⟩, ⟨_, rfl, rfl, rfl, id⟩, trivial⟩ rfl
  intro j hj
  have hl := fR hf k2 s hm j hj
  refine stN ?_
  refine Br.split (fun h => ?_) (fun h => ?_)
  ·have hj : j < m := by have := of_decide_eq_true h; omega
   have hc : ovI f k2 bs o s (j + 1) = (i3 f bs (o + 512 * j) (ovI f k2 bs o s j) (iD k2 (xL (s + BitVec.ofNat 64 j)) 14) 32).1 := rfl
   generalize ovI f k2 bs o s j = out at hl hc ⊢
   have hfa := zV k2 (s + BitVec.ofNat 64 j) h2
   have htl := bV k2 _ (jG (s + BitVec.ofNat 64 j)) 14
   generalize iD k2 (xL (s + BitVec.ofNat 64 j)) 14 = t at hc hfa htl
   refine stN ?_
   refine bY hfa [0, 1, 2] rfl rfl ⟨⟨_, rfl, rfl, rfl, id⟩, ⟨_, rfl, rfl, (aC _ k2).symm, id⟩, trivial⟩ rfl rfl ?_
   refine stN ?_
   have hu : s + BitVec.ofNat 64 j + BitVec.ofNat 64 (Int.toNat 1) = s + BitVec.ofNat 64 (j + 1) := by
    rw [BitVec.add_assoc, ← BitVec.ofNat_add]; rfl
   refine aT Nat (fun i => [(0, .ptr 0 []), (1, .u64 (s + BitVec.ofNat 64 (j + 1))), (2, .slice 3 [] (o + 512 * j) (512 * m - 512 * j) (capI cap j)), (3, .fn g [.ptr 1 []] []), (10, .slice 4 [] 0 (512 * j + 16 * i) none), (11, .ptr 5 []),
     (12, .slice 3 [] (o + 512 * j + 16 * i) (512 - 16 * i) (some (512 - 16 * i)))])
    (fun i => [(0, some ⟨tX, .node [.ptr 1 [], .ptr 2 []], true⟩), (1, some ⟨tC, bP k1, true⟩), (2, some ⟨tC, bP k2, true⟩), (3, some ⟨.arr n .cell, .u8s bs, false⟩), (4, some ⟨.row .cell, .u8s (i3 f bs (o + 512 * j) out t i).1, true⟩),
     (5, some ⟨t16, .u8s (i3 f bs (o + 512 * j) out t i).2, true⟩)]) 6 (fun i => i ≤ 32) (fun i => 32 - i) 0 [0, 1, 2, 3, 4, 5] (Nat.zero_le _) ?_ ?_
   ·refine bA rfl ⟨rfl, congrArg (fun x => some (D.u64 x)) hu, rfl, rfl, rfl, rfl, d8 rfl rfl rfl, trivial⟩ ⟨⟨_, rfl, rfl, rfl, id⟩, ⟨_, rfl, rfl, (aC _ k1).symm, id⟩, ⟨_, rfl, rfl, (aC _ k2).symm, id⟩, ⟨_, rfl, rfl, rfl, id⟩, ⟨_, rfl, rfl, rfl, id⟩, ⟨_, rfl, rfl, rfl, id⟩, trivial⟩ rfl
   intro i hi
   obtain ⟨s1, s2⟩ := f5 (out := out) hf htl (show o + 512 * j + 512 ≤ bs.length by omega) i hi
   rw [hl] at s1
   refine stN ?_
   refine Br.split (fun h => ?_) (fun h => ?_)
   ·have hi : i < 32 := by have := of_decide_eq_true h; omega
    have hs1 : (i3 f bs (o + 512 * j) out t (i + 1)).1 = (i3 f bs (o + 512 * j) out t i).1 ++ aBQ f (i3 f bs (o + 512 * j) out t i).2 ((bs.drop (o + 512 * j + 16 * i)).take 16) := rfl
    have hs2 : (i3 f bs (o + 512 * j) out t (i + 1)).2 = twF (i3 f bs (o + 512 * j) out t i).2 := rfl
    have hp : ((bs.drop (o + 512 * j + 16 * i)).take 16).length = 16 := by rw [List.length_take, List.length_drop]; omega
    generalize (i3 f bs (o + 512 * j) out t i).1 = O at s1 hs1 ⊢
    generalize (i3 f bs (o + 512 * j) out t i).2 = w at s2 hs1 hs2 ⊢
    have hq : (m8 ((bs.drop (o + 512 * j + 16 * i)).take 16) w).length = 16 := by rw [aL, hp]
    have hfq := hf _ hq
    have hbl2 : (m8 (f (m8 ((bs.drop (o + 512 * j + 16 * i)).take 16) w)) w).length = 16 := by rw [aL, hfq]
    have hwl := iJ w
    rw [s2] at hwl
    refine stN ?_
    refine bY (qX ((bs.drop (o + 512 * j + 16 * i)).take 16) w hp s2) [] rfl rfl trivial rfl rfl ?_
    refine stN ?_
    refine bY (hg _ hq) [1] rfl rfl ⟨⟨_, rfl, rfl, (aC _ k1).symm, id⟩, trivial⟩ rfl rfl ?_
    refine stN ?_
    refine bY (qX _ w hfq s2) [] rfl rfl trivial rfl rfl ?_
    refine stN ?_
    refine ⟨0, ?_⟩
    refine stN ?_
    refine bY (pO w s2) [] rfl rfl trivial rfl rfl ?_
    refine stN ?_
    refine fS (i + 1) [0, 1, 2, 3, 7, 5] ?_ ?_ ?_
    ·omega
    ·omega
    ·refine bA rfl ⟨rfl, rfl, rfl, rfl, d8 rfl ?_ rfl, rfl, d8 ?_ ?_ ?_, trivial⟩ ⟨⟨_, rfl, rfl, rfl, id⟩, ⟨_, rfl, rfl, (aC _ k1).symm, id⟩, ⟨_, rfl, rfl, (aC _ k2).symm, id⟩, ⟨_, rfl, rfl, rfl, id⟩, ⟨_, rfl, rfl, congrArg D.u8s ?_, id⟩, ⟨_, rfl, rfl, congrArg D.u8s hs2.symm, id⟩, trivial⟩ rfl
     ·show 512 * j + 16 * i + 16 = 512 * j + 16 * (i + 1)
      omega
     ·show o + 512 * j + 16 * i + 16 = o + 512 * j + 16 * (i + 1)
      omega
     ·show ((512 - 16 * i : Nat) : Int).toNat - 16 = 512 - 16 * (i + 1)
      omega
     ·show some (512 - 16 * i - 16) = some (512 - 16 * (i + 1))
      rw [show 512 - 16 * i - 16 = 512 - 16 * (i + 1) by omega]
     ·rw [hs1]
      show List.take (512 * j + 16 * i) O ++ List.take 16 (aBQ f w _) = _
      rw [List.take_of_length_le (by omega), List.take_of_length_le (by rw [gH hf hp]; exact Nat.le_refl _)]
   ·have hi : i = 32 := by have := of_decide_eq_false h; omega
    subst hi
    refine stN ?_
    refine fS (j + 1) [0, 1, 2, 3, 4] ?_ ?_ ?_
    ·omega
    ·omega
    ·refine bA rfl ⟨rfl, rfl, d8 ?_ ?_ rfl, rfl, rfl, trivial⟩ ⟨⟨_, rfl, rfl, rfl, id⟩, ⟨_, rfl, rfl, (aC _ k1).symm, id⟩, ⟨_, rfl, rfl, (aC _ k2).symm, id⟩, ⟨_, rfl, rfl, rfl, id⟩, ⟨_, rfl, rfl, congrArg D.u8s hc.symm, id⟩, trivial⟩ rfl
     ·show o + 512 * j + 512 = o + 512 * (j + 1)
      omega
     ·show ((512 * m - 512 * j : Nat) : Int).toNat - 512 = 512 * m - 512 * (j + 1)
      omega
  ·have hj : j = m := by have := of_decide_eq_false h; omega
   subst hj
   refine stN ?_
   refine oX [0, 1, 2, 3, 4] ⟨rfl, rfl⟩ rfl ⟨⟨_, rfl, rfl, rfl, id⟩, ⟨_, rfl, rfl, rfl, id⟩, ⟨_, rfl, rfl, (aC _ k1).symm, id⟩, ⟨_, rfl, rfl, (aC _ k2).symm, id⟩, ⟨_, rfl, rfl, rfl, id⟩, trivial⟩ rfl
def qU (B : Nat → B8) : Nat → B8
 |0 => []
 |n + 1 => qU B n ++ B n
def twN (t : B8) : Nat → B8
 |0 => t
 |n + 1 => twF (twN t n)
def mB (l : B8) (o : Nat) : B8 := (l.drop o).take 16
def twK (k2 : List B8) (s : BitVec 64) (k : Nat) : B8 := twN (iD k2 (xL (s + BitVec.ofNat 64 (k / 32))) 14) (k % 32)
def aDE (f : B8 → B8) (k2 : List B8) (bs : B8) (o : Nat) (s : BitVec 64) (k : Nat) : B8 := aBQ f (twK k2 s k) (mB bs (o + 16 * k))
theorem aBb (f : B8 → B8) (bs : B8) (o : Nat) (out t : B8) : ∀ i, (i3 f bs o out t i).2 = twN t i
 |0 => rfl
 |i + 1 => by
  show twF (i3 f bs o out t i).2 = twF (twN t i)
  rw [aBb f bs o out t i]
theorem yP (f : B8 → B8) (k2 : List B8) (bs : B8) (o : Nat) (s : BitVec 64) (j : Nat) (out : B8) (hout : out = qU (aDE f k2 bs o s) (32 * j)) :
  ∀ i, i ≤ 32 → (i3 f bs (o + 512 * j) out (iD k2 (xL (s + BitVec.ofNat 64 j)) 14) i).1 = qU (aDE f k2 bs o s) (32 * j + i)
 |0, _ => hout
 |i + 1, hi => by
  have ih := yP f k2 bs o s j out hout i (by omega)
  have ht := aBb f bs (o + 512 * j) out (iD k2 (xL (s + BitVec.ofNat 64 j)) 14) i
  have e1 : (32 * j + i) / 32 = j := by omega
  have e2 : (32 * j + i) % 32 = i := by omega
  have e3 : o + 512 * j + 16 * i = o + 16 * (32 * j + i) := by omega
  rw [i3, ih, ht, e3]
  show _ = qU (aDE f k2 bs o s) (32 * j + i) ++ aDE f k2 bs o s (32 * j + i)
  unfold aDE twK
  rw [e1, e2]
  rfl
theorem w7 (f : B8 → B8) (k2 : List B8) (bs : B8) (o : Nat) (s : BitVec 64) : ∀ j, ovI f k2 bs o s j = qU (aDE f k2 bs o s) (32 * j)
 |0 => rfl
 |j + 1 => by
  rw [ovI, yP f k2 bs o s j _ (w7 f k2 bs o s j) 32 (Nat.le_refl _)]
  rfl
theorem oS {B : Nat → B8} : ∀ {n : Nat}, (∀ k, k < n → (B k).length = 16) → (qU B n).length = 16 * n
 |0, _ => rfl
 |n + 1, h => by
  rw [qU, List.length_append, oS (fun k hk => h k (by omega)), h n (by omega)]; omega
theorem qS {B C : Nat → B8} : ∀ {n : Nat}, (∀ k, k < n → B k = C k) → qU B n = qU C n
 |0, _ => rfl
 |n + 1, h => by rw [qU, qU, qS (fun k hk => h k (by omega)), h n (by omega)]
theorem qT {B : Nat → B8} : ∀ {n : Nat}, (∀ k, k < n → (B k).length = 16) → ∀ k, k < n → mB (qU B n) (16 * k) = B k
 |0, _, k, hk => by omega
 |n + 1, h, k, hk => by
  have hl := oS (n := n) (fun k hk => h k (by omega))
  unfold mB
  rw [qU]
  by_cases hkn : k = n
  ·subst hkn
   rw [List.drop_append_of_le_length (by omega), List.drop_eq_nil_of_le (by omega), List.nil_append, List.take_of_length_le (by rw [h k (by omega)]; exact Nat.le_refl _)]
  ·rw [List.drop_append_of_le_length (by omega), List.take_append_of_le_length (by rw [List.length_drop]; omega)]
   exact qT (fun k hk => h k (by omega)) k (by omega)
theorem vK (l : B8) (o : Nat) : ∀ n, o + 16 * n ≤ l.length → qU (fun k => mB l (o + 16 * k)) n = (l.drop o).take (16 * n)
 |0, _ => by simp [qU]
 |n + 1, h => by
  rw [qU, vK l o n (by omega), show 16 * (n + 1) = 16 * n + 16 by omega, List.take_add, List.drop_drop]
  rfl
theorem lW {l : B8} {o : Nat} (h : o + 16 ≤ l.length) : (mB l o).length = 16 := by
 unfold mB; rw [List.length_take, List.length_drop]; omega
section
variable {f g : B8 → B8} (hf : ∀ p, p.length = 16 → (f p).length = 16) (hgf : ∀ p, p.length = 16 → g (f p) = p)
include f g hf hgf
theorem aET {t p : B8} (hp : p.length = 16) : aBQ g t (aBQ f t p) = p := by
 unfold aBQ
 rw [m7 _ _ (hf _ (by rw [aL, hp])), hgf _ (by rw [aL, hp]), m7 _ _ hp]
theorem aF8 (k2 : List B8) (bs : B8) (o m : Nat) (s : BitVec 64) (hm : o + 512 * m ≤ bs.length) :
  ovI g k2 (ovI f k2 bs o s m) 0 s m = (bs.drop o).take (512 * m) := by
 have hlen : ∀ k, k < 32 * m → (aDE f k2 bs o s k).length = 16 := fun k hk => gH hf (lW (by omega))
 rw [w7 g, w7 f]
 have e : qU (aDE g k2 (qU (aDE f k2 bs o s) (32 * m)) 0 s) (32 * m) = qU (fun k => mB bs (o + 16 * k)) (32 * m) := by
  refine qS fun k hk => ?_
  have h1 := qT hlen k hk
  show aBQ g (twK k2 s k) (mB (qU (aDE f k2 bs o s) (32 * m)) (0 + 16 * k)) = _
  rw [Nat.zero_add, h1]
  exact aET hf hgf (lW (by omega))
 rw [e, vK bs o (32 * m) (by omega), show 16 * (32 * m) = 512 * m by omega]
end
abbrev xMem (k1 k2 : List B8) (T : Ty) (bs : B8) : Mem :=
 [(0, some ⟨tX, .node [.ptr 1 [], .ptr 2 []], true⟩), (1, some ⟨tC, bP k1, true⟩), (2, some ⟨tC, bP k2, true⟩), (3, some ⟨T, .u8s bs, false⟩)]
def aDC (k : List B8) (p : B8) : B8 := iD k p 14
theorem aEt (a b : B8) (ha : a.length = 32) (hb : b.length = 32) : AC Tryz.prog 30 [.u8s a, .u8s b] 0 []
  ⟨.ptr 0 [], [], [(tX, .node [.ptr 1 [], .ptr 2 []]), (tC, bP (dJ a)), (tC, bP (dJ b))]⟩ := by
 have n1 := aEc a ha
 have n2 := aEc b hb
 generalize dJ a = k1 at n1 ⊢
 generalize dJ b = k2 at n2 ⊢
 refine fM tab mix Tryz.func30 rfl (by kernel_rfl) (by kernel_rfl) (by kernel_rfl) {} ?_
 refine stN ?_
 refine aGI n1 [] (.ptr 2 []) [(2, some ⟨tC, bP k1, true⟩)] rfl rfl trivial rfl rfl rfl (congrArg (fun d => ([(2, some ⟨tC, d, true⟩)] : Mem)) (aC _ k1)) ?_
 refine stN ?_
 refine aGI n2 [] (.ptr 3 []) [(3, some ⟨tC, bP k2, true⟩)] rfl rfl trivial rfl rfl rfl (congrArg (fun d => ([(3, some ⟨tC, d, true⟩)] : Mem)) (aC _ k2)) ?_
 refine stN ?_
 refine oX [4, 2, 3] rfl rfl ⟨⟨_, rfl, rfl, rfl, id⟩, ⟨_, rfl, rfl, (aC _ k1).symm, id⟩, ⟨_, rfl, rfl, (aC _ k2).symm, id⟩, trivial⟩ rfl
section
variable (T : Ty) (hT : T = .row .cell ∨ ∃ n, T = .arr n .cell) (k1 k2 : List B8) (h1 : Rows 15 16 k1) (h2 : Rows 15 16 k2) (bs : B8) (o m : Nat) (cap : Option Nat) (s : BitVec 64) (hm : o + 512 * m ≤ bs.length) (hm2 : m ≤ 128) (hbl : bs.length < 9223372036854775808)
include T hT k1 k2 h1 h2 bs o m cap s hm hm2 hbl
theorem aBc :
  AC Tryz.prog 137 [.ptr 0 [], .u64 s, .slice 3 [] o (512 * m) cap] 4 (xMem k1 k2 T bs)
   ⟨.tup [.slice 4 [] 0 (512 * m) none, .i64 0], [], [(.row .cell, .u8s (ovI (aDC k1) k2 bs o s m))]⟩ := by
 have ho := aCC T hT 160 (aDC k1) k1 k2 h2 (fun p hp => qP k1 p hp h1.1 h1.2) (fun p hp => bV k1 p hp 14) bs o m cap s hm hm2 hbl
 generalize ovI (aDC k1) k2 bs o s m = out at ho ⊢
 refine fM tab mix Tryz.func137 rfl (by kernel_rfl) (by kernel_rfl) (by kernel_rfl) {} ?_
 refine stN ?_
 refine Br.no rfl ?_
 refine stN ?_
 refine bY ho [0, 1, 2, 3] rfl rfl ⟨⟨_, rfl, rfl, rfl, id⟩, ⟨_, rfl, rfl, (aC _ k1).symm, id⟩, ⟨_, rfl, rfl, (aC _ k2).symm, id⟩, ⟨_, rfl, rfl, rfl, id⟩, trivial⟩ rfl rfl ?_
 refine stN ?_
 refine oX [0, 1, 2, 3, 4] ⟨rfl, rfl⟩ rfl ⟨⟨_, rfl, rfl, rfl, id⟩, ⟨_, rfl, rfl, rfl, id⟩, ⟨_, rfl, rfl, (aC _ k1).symm, id⟩, ⟨_, rfl, rfl, (aC _ k2).symm, id⟩, ⟨_, rfl, rfl, rfl, id⟩, trivial⟩ rfl
theorem aDG :
  AC Tryz.prog 62 [.ptr 0 [], .u64 s, .slice 3 [] o (512 * m) cap] 4 (xMem k1 k2 T bs)
   ⟨.tup [.slice 4 [] 0 (512 * m) none, .i64 0], [], [(.row .cell, .u8s (ovI (aAw k1) k2 bs o s m))]⟩ := by
 have ho := aCC T hT 99 (aAw k1) k1 k2 h2 (fun p hp => aAv k1 p hp h1.1 h1.2) (fun p hp => by rw [aAw, aL, jM k1 p hp]) bs o m cap s hm hm2 hbl
 generalize ovI (aAw k1) k2 bs o s m = out at ho ⊢
 refine fM tab mix Tryz.func62 rfl (by kernel_rfl) (by kernel_rfl) (by kernel_rfl) {} ?_
 refine stN ?_
 refine Br.no rfl ?_
 refine stN ?_
 refine bY ho [0, 1, 2, 3] rfl rfl ⟨⟨_, rfl, rfl, rfl, id⟩, ⟨_, rfl, rfl, (aC _ k1).symm, id⟩, ⟨_, rfl, rfl, (aC _ k2).symm, id⟩, ⟨_, rfl, rfl, rfl, id⟩, trivial⟩ rfl rfl ?_
 refine stN ?_
 refine oX [0, 1, 2, 3, 4] ⟨rfl, rfl⟩ rfl ⟨⟨_, rfl, rfl, rfl, id⟩, ⟨_, rfl, rfl, rfl, id⟩, ⟨_, rfl, rfl, (aC _ k1).symm, id⟩, ⟨_, rfl, rfl, (aC _ k2).symm, id⟩, ⟨_, rfl, rfl, rfl, id⟩, trivial⟩ rfl
end
theorem aFt (ks ss us vs : B8) (p k q l r n o t : Nat) (c d f g : Option Nat) (ha : p + k ≤ ks.length) (hb : q + l ≤ ss.length) (hc : r + n ≤ us.length) (hd : o + t ≤ vs.length) (hk : k ≤ 64) (hl0 : 0 < l) (hl : l ≤ 10000000) (hn0 : 0 < n) (hn : n ≤ 10000000) (ht0 : 0 < t) (ht : t ≤ 10000000) :
  AC Tryz.prog 59 [.slice 0 [] p k c, .slice 1 [] 0 3 (some 3)] 5 [(0, some ⟨.row .cell, .u8s ks, false⟩), (1, some ⟨.row .cell, .node [.slice 2 [] q l d, .slice 3 [] r n f, .slice 4 [] o t g], true⟩), (2, some ⟨.row .cell, .u8s ss, false⟩), (3, some ⟨.row .cell, .u8s us, false⟩), (4, some ⟨.row .cell, .u8s vs, false⟩), gR]
   ⟨.u8s (hmF ((ks.drop p).take k) ((ss.drop q).take l ++ (us.drop r).take n ++ (vs.drop o).take t)), [], []⟩ := by
 have hkl : ((ks.drop p).take k).length = k := by rw [List.length_take, List.length_drop]; omega
 have hbl : ((ss.drop q).take l).length = l := by rw [List.length_take, List.length_drop]; omega
 have hul : ((us.drop r).take n).length = n := by rw [List.length_take, List.length_drop]; omega
 have hvl : ((vs.drop o).take t).length = t := by rw [List.length_take, List.length_drop]; omega
 have hn := aC5 ks p k c ha hk
 have e : hmF ((ks.drop p).take k) ((ss.drop q).take l ++ (us.drop r).take n ++ (vs.drop o).take t) = j0 (opF ((ks.drop p).take k) ++ j0 (ipF ((ks.drop p).take k) ++ ((ss.drop q).take l ++ (us.drop r).take n ++ (vs.drop o).take t))) := rfl
 rw [← List.append_assoc, ← List.append_assoc] at e
 have hO := qA ((ks.drop p).take k)
 have hN := qG (key := (ks.drop p).take k) (by omega)
 generalize hmF ((ks.drop p).take k) ((ss.drop q).take l ++ (us.drop r).take n ++ (vs.drop o).take t) = y at e ⊢
 generalize opF ((ks.drop p).take k) = O at hn e hO
 generalize ipF ((ks.drop p).take k) = N at hn e hN
 have hw := eX O N N ss 64 q l d (ip0 hN) (by rw [hN]; decide) hb hl0 (by omega) (by omega)
 have hr := dO N ((ss.drop q).take l) hbl
 have hm := dN N ((ss.drop q).take l) hbl
 rw [hN] at hr hm
 generalize (ss.drop q).take l = b at hw hr hm e hbl
 have hNl : (N ++ b).length = 64 + l := by rw [List.length_append, hN, hbl]
 have hw2 := eX O (N ++ b) (reF N ++ b) us (64 * ((64 % 64 + l) / 64)) r n f (by rw [hNl]; exact hr) (by rw [hNl]; exact hm) hc hn0 (by omega) (by omega)
 have hr2 := dO (N ++ b) ((us.drop r).take n) hul
 have hm2 := dN (N ++ b) ((us.drop r).take n) hul
 rw [hNl] at hr2 hm2
 generalize (us.drop r).take n = u at hw2 hr2 hm2 e hul
 have hNl2 : (N ++ b ++ u).length = 64 + l + n := by rw [List.length_append, hNl, hul]
 have hw3 := eX O (N ++ b ++ u) (reF (N ++ b) ++ u) vs (64 * (((64 + l) % 64 + n) / 64)) o t g (by rw [hNl2]; exact hr2) (by rw [hNl2]; exact hm2) hd ht0 (by omega) (by omega)
 have hr3 := dO (N ++ b ++ u) ((vs.drop o).take t) hvl
 have hm3 := dN (N ++ b ++ u) ((vs.drop o).take t) hvl
 rw [hNl2] at hr3 hm3
 generalize (vs.drop o).take t = v at hw3 hr3 hm3 e hvl
 have hNl3 : (N ++ b ++ u ++ v).length = 64 + l + n + t := by rw [List.length_append, hNl2, hvl]
 have hs := uJ O (N ++ b ++ u ++ v) (reF (N ++ b ++ u) ++ v) (64 * (((64 + l + n) % 64 + t) / 64)) (by rw [hNl3]; exact hr3) (by rw [hNl3]; exact hm3) (by omega) hO
 rw [← e, hNl3] at hs
 rw [hNl2] at hw3
 rw [hNl] at hw2
 rw [hN] at hw
 have hy : y.length = 32 := by rw [e]; exact bE _
 refine acA tab mix Tryz.func59 ⟨[], [3]⟩ ?_
 refine go ?_
 refine cM hn [0] ?_
 refine o0 4 ?_
 refine gob ?_
 refine aB hw [6, 7, 2, 8] ?_
 refine aB hw2 [6, 7, 3, 9] ?_
 refine aB hw3 [6, 7, 4, 10] ?_
 refine cM hs [6, 7, 11] ?_
 refine aF [0, 1, 2, 3, 4]
def aFp : B8 := [108, 101, 97, 102]
def aCM : B8 := [110, 111, 100, 101]
def u4B (n : BitVec 32) : B8 := nbF (n.setWidth 64) 4
def bG (tag : B8) (at' : BitVec 32) (b : B8) : B8 := hmF tag (aFp ++ u4B at' ++ b)
theorem aI (tag : B8) (at' : BitVec 32) (b : B8) : (bG tag at' b).length = 32 := qH _ _
theorem aFf (bs : B8) (o k : Nat) (cap : Option Nat) (h : o + k ≤ bs.length) (hk0 : 0 < k) (hk : k ≤ 10000000) :
  AC Tryz.prog 67 [.slice 0 [] o k cap] 1 [(0, some ⟨.row .cell, .u8s bs, false⟩), gR] ⟨.u8s (j0 (aCM ++ (bs.drop o).take k)), [], []⟩ := by
 have h1 := aEb aCM bs 0 4 o k (some 4) cap (by decide) h (by decide) hk0 (by decide) (by omega)
 rw [List.drop_zero, List.take_of_length_le (by decide)] at h1
 have hy := bE (aCM ++ (bs.drop o).take k)
 generalize j0 (aCM ++ (bs.drop o).take k) = y at h1 hy ⊢
 refine acA tab mix Tryz.func67 {} ?_
 refine gob ?_
 refine aB h1 [3, 2, 0] ?_
 refine aF [0]
theorem aDl (tag bs : B8) (n : BitVec 32) (o k : Nat) (cap : Option Nat) (ht : tag.length = 32) (h : o + k ≤ bs.length) (hk0 : 0 < k) (hk : k ≤ 10000000) :
  AC Tryz.prog 97 [.u8s tag, .u32 n, .slice 0 [] o k cap] 1 [(0, some ⟨.row .cell, .u8s bs, false⟩), gR] ⟨.u8s (bG tag n ((bs.drop o).take k)), [], []⟩ := by
 have hp := dX n
 have hl := aR (n.setWidth 64) 4
 have h1 := aFt tag aFp (nbF (n.setWidth 64) 4) bs 0 32 0 4 0 4 o k (some 32) (some 4) none cap (by omega) (by decide) (by omega) h (by decide) (by decide) (by decide) (by decide) (by decide) hk0 hk
 rw [List.drop_zero, List.drop_zero, List.drop_zero, List.take_of_length_le (by omega), List.take_of_length_le (by decide), List.take_of_length_le (by omega), show hmF tag (aFp ++ nbF (n.setWidth 64) 4 ++ (bs.drop o).take k) = bG tag n ((bs.drop o).take k) from rfl] at h1
 have hy := aI tag n ((bs.drop o).take k)
 generalize bG tag n ((bs.drop o).take k) = y at h1 hy ⊢
 generalize nbF (n.setWidth 64) 4 = Z at hp hl h1
 refine acA tab mix Tryz.func97 {} ?_
 refine gob ?_
 refine aB hp [] ?_
 refine aB (h1.arr 0 32) [1, 5, 3, 4, 0] ?_
 refine aF [0]
abbrev tSp : Ty := .st [.cell, .st [.cell, .cell], .cell, .arr 32 .cell]
abbrev lK : Ty := .st [.cell, .arr 32 .cell]
def aA (n : BitVec 32) (s : B8) : D := .node [.u32 n, .u8s s]
theorem lC (n : BitVec 32) : AC Tryz.prog 61 [.ptr 0 [], .u32 n] 1 [] ⟨.fn 96 [] [.ptr 1 [], .ptr 2 []], [], [(.cell, .ptr 0 []), (.cell, .u32 n)]⟩ := by
 refine acA tab mix Tryz.func61 {} ?_
 refine gob ?_
 refine aF [0, 1, 2]
theorem tB : AC Tryz.prog 94 [.i64 43] 0 [] ⟨.i64 40, [], []⟩ := by
 refine acA tab mix Tryz.func94 {} ?_
 refine gob ?_
 refine aF []
theorem dP {a : BitVec 32} (h : 1 ≤ a.toNat) : (a - 1).toNat = a.toNat - 1 := by
 have := a.isLt
 rw [BitVec.toNat_sub]; show (2 ^ 32 - 1 + a.toNat) % 2 ^ 32 = _; omega
theorem pZ (key : B8) (hk : key.length = 32) : Rows 15 16 (dJ key) := ⟨j3 key, nK key hk⟩
section
variable (k1 k2 : List B8) (bs : B8) (o m : Nat) (s : BitVec 64) (hm : o + 512 * m ≤ bs.length)
include k1 k2 bs o m s hm
theorem aBS : ovI (aAw k1) k2 (ovI (aDC k1) k2 bs o s m) 0 s m = (bs.drop o).take (512 * m) :=
 aF8 (f := aDC k1) (g := aAw k1) (fun p hp => bV k1 p hp 14) (fun p hp => by unfold aDC; exact aGC k1 p hp) k2 bs o m s hm
theorem wW : (ovI (aDC k1) k2 bs o s m).length = 512 * m :=
 fR (fun p hp => bV k1 p hp 14) k2 s hm m (Nat.le_refl _)
theorem w9 : (ovI (aAw k1) k2 bs o s m).length = 512 * m :=
 fR (fun p hp => by rw [aAw, aL, jM k1 p hp]) k2 s hm m (Nat.le_refl _)
end
def bH (b : B8) : B8 := j0 (aCM ++ b)
theorem aH (b : B8) : (bH b).length = 32 := bE _
def aFd : B8 := [100, 97, 116, 97, 32, 111, 110, 101]
def aEx : B8 := [100, 97, 116, 97, 32, 116, 119, 111]
def aEz : B8 := [116, 97, 103]
section
variable {S B : B8} {p : Nat} (h : p + B.length ≤ S.length)
include S B p h
theorem aFq : ((aAj S B p).drop p).take B.length = B := by
 rw [aAj, List.append_assoc, List.drop_append_of_le_length (by simp; omega), List.drop_of_length_le (by simp; omega), List.nil_append, List.take_append_of_le_length (Nat.le_refl _), List.take_of_length_le (Nat.le_refl _)]
theorem aCV (i : Nat) : (aAj S B p).getD i 0 = if p ≤ i ∧ i < p + B.length then B.getD (i - p) 0 else S.getD i 0 := by
 simp only [aAj, List.getD_eq_getElem?_getD, List.getElem?_append, List.length_append, List.length_take, List.getElem?_drop, List.getElem?_take]
 by_cases h1 : i < p
 ·rw [if_pos (by omega), if_pos (by omega), if_pos h1, if_neg (by omega)]
 ·by_cases h2 : i < p + B.length
  ·rw [if_pos (by omega), if_neg (by omega), if_pos ⟨by omega, h2⟩]; congr 3; omega
  ·rw [if_neg (by omega), if_neg (by omega)]; congr 2; congr 1; omega
end
theorem aDt {S B : B8} {p q n : Nat} (h : p + B.length ≤ S.length) (hq : q + n ≤ S.length) (ho : q + n ≤ p ∨ p + B.length ≤ q) : ((aAj S B p).drop q).take n = (S.drop q).take n := by
 refine aCe (by simp [jE h]) fun i hi => ?_
 have hi' : i < n := by simp [jE h] at hi; omega
 have e : ∀ l : B8, ((l.drop q).take n).getD i 0 = l.getD (q + i) 0 := fun l => by
  simp [List.getD_eq_getElem?_getD, List.getElem?_take, hi']
 rw [e, e, aCV h, if_neg (by omega)]
abbrev zB (n : Nat) : B8 := List.replicate n 0


theorem yI (c p : Nat) (K : B8) (hc : 1 ≤ c) (hc2 : c ≤ 64) (hp : 1 ≤ p) (hp2 : p ≤ 2) (hK : K.length = 32) (hne : ¬ j0 (wD c p ++ List.replicate (512 - 13) 0) = List.replicate 32 0) :
  AC Tryz.prog 9 [.ptr 0 [], aDx c p, .u8s K] 1 [gR]
   ⟨.ptr 1 [], [], [(tSp, .node [.ptr 0 [], aDx c p, .ptr 2 [], .u8s (sN K aEz)]), (tX, .node [.ptr 3 [], .ptr 4 []]), (tC, bP (dJ (sN K aFd))), (tC, bP (dJ (sN K aEx)))]⟩ := by
 have hs := aFC c p hc hc2 hp hp2
 have l1 := rR K aFd hK (by decide) (by decide)
 have l2 := rR K aEx hK (by decide) (by decide)
 have l3 := rR K aEz hK (by decide) (by decide)
 have y1 := cY K aFd
 have y2 := cY K aEx
 have y3 := cY K aEz
 generalize sN K aFd = z1 at l1 y1 ⊢
 generalize sN K aEx = z2 at l2 y2 ⊢
 generalize sN K aEz = z3 at l3 y3 ⊢
 have hx := aEt z1 z2 y1 y2
 generalize dJ z1 = k1 at hx ⊢
 generalize dJ z2 = k2 at hx ⊢
 have hy := bE (wD c p ++ List.replicate (512 - 13) 0)
 generalize j0 (wD c p ++ List.replicate (512 - 13) 0) = sm at hs hne hy
 refine acA tab mix Tryz.func9 {} ?_
 refine gob ?_
 refine aB hs [] ?_
 refine aB l1 [] ?_
 refine aB l2 [] ?_
 refine aB hx [] ?_
 refine aB l3 [] ?_
 refine aF [0, 6, 3, 4, 5]
abbrev uC : D := .node (List.replicate 8 (.node [.u32 0, .u8s (List.replicate 32 0)]))
theorem con_eq {a b c z : B8} {n : Nat} (ha : a.length = n) (hb : b.length = 4) (hc : c.length = 32) :
  List.take (0 + n + 4) (List.take (0 + n) (List.take 0 z ++ List.take n a) ++ List.take 4 b) ++ List.take 32 c = a ++ b ++ c := by
 rw [List.take_zero, List.nil_append, List.take_of_length_le (l := a) (by omega), List.take_of_length_le (l := a) (by omega), List.take_of_length_le (l := b) (by omega), List.take_of_length_le (l := c) (by omega), List.take_of_length_le (by rw [List.length_append]; omega)]
theorem aGG {b c z : B8} (hb : b.length = 4) (hc : c.length = 32) :
  List.take (0 + 0 + 4) (List.take (0 + 0) (List.take 0 z ++ []) ++ List.take 4 b) ++ List.take 32 c = b ++ c := by
 rw [List.take_zero, List.nil_append, List.take_of_length_le (l := b) (i := 4) (by omega), List.take_of_length_le (l := b) (by omega), List.take_of_length_le (l := c) (by omega)]
theorem dT (a b c : B8) (n : Nat) (ha : a.length = n) (hb : b.length = 4) (hc : c.length = 32) (hn : n ≤ 1000000) :
  AC Tryz.prog 82 [.slice 0 [] 0 3 (some 3)] 4 [(0, some ⟨.row .cell, .node [.slice 1 [] 0 n none, .slice 2 [] 0 4 none, .slice 3 [] 0 32 (some 32)], true⟩),
   (1, some ⟨.row .cell, .u8s a, false⟩), (2, some ⟨.row .cell, .u8s b, false⟩), (3, some ⟨.row .cell, .u8s c, false⟩)]
   ⟨.slice 4 [] 0 (0 + n + 4 + 32) none, [], [(.row .cell, .u8s (a ++ b ++ c))]⟩ := by
 refine acA tab mix Tryz.func82 ⟨[], [3, 11]⟩ ?_
 refine go ?_
 refine o0 4 ?_
 refine gob ?_
 refine cM (oB (0 + (n : Int) + 4 + 32) (by omega) (by omega)) [] ?_
 refine o0 4 ?_
 refine gob ?_
 refine ⟨0, ?_⟩
 refine gob ?_
 refine ⟨0, ?_⟩
 refine gob ?_
 refine ⟨0, ?_⟩
 refine gob ?_
 refine aF [0, 1, 2, 3, 7] (h3 := ?_)
 (repeat' (first | exact trivial | refine And.intro ⟨_, rfl, rfl, ?_, id⟩ ?_ | refine And.intro ⟨_, rfl, rfl, ?_, fun _ => rfl⟩ ?_)) <;> first | rfl | exact congrArg D.u8s (con_eq ha hb hc)
theorem xS (b c : B8) (hb : b.length = 4) (hc : c.length = 32) :
  AC Tryz.prog 82 [.slice 0 [] 0 3 (some 3)] 3 [(0, some ⟨.row .cell, .node [.nilslice, .slice 1 [] 0 4 none, .slice 2 [] 0 32 (some 32)], true⟩),
   (1, some ⟨.row .cell, .u8s b, false⟩), (2, some ⟨.row .cell, .u8s c, false⟩)]
   ⟨.slice 3 [] 0 36 none, [], [(.row .cell, .u8s (b ++ c))]⟩ := by
 refine acA tab mix Tryz.func82 ⟨[], [3, 11]⟩ ?_
 refine go ?_
 refine o0 4 ?_
 refine gob ?_
 refine cM (oB (0 + 0 + 4 + 32) (by omega) (by omega)) [] ?_
 refine o0 4 ?_
 refine gob ?_
 refine ⟨0, ?_⟩
 refine gob ?_
 refine ⟨0, ?_⟩
 refine gob ?_
 refine ⟨0, ?_⟩
 refine gob ?_
 refine aF [0, 1, 2, 6] (h3 := ?_)
 (repeat' (first | exact trivial | refine And.intro ⟨_, rfl, rfl, ?_, id⟩ ?_ | refine And.intro ⟨_, rfl, rfl, ?_, fun _ => rfl⟩ ?_)) <;> first | rfl | exact congrArg D.u8s (aGG hb hc)
def y9 (a : BitVec 32) (s : B8) : B8 := u4B a ++ s
theorem bU {a : BitVec 32} {s : B8} (h : s.length = 32) : (y9 a s).length = 36 := by rw [y9, List.length_append, u4B, aR, h]
abbrev zJ (a0 a1 a2 a3 a4 a5 a6 a7 : BitVec 32) (s0 s1 s2 s3 s4 s5 s6 s7 : B8) : D := .node [aA a0 s0, aA a1 s1, aA a2 s2, aA a3 s3, aA a4 s4, aA a5 s5, aA a6 s6, aA a7 s7]
def dK (a0 a1 a2 a3 a4 a5 a6 a7 : BitVec 32) (s0 s1 s2 s3 s4 s5 s6 s7 : B8) : B8 := y9 a0 s0 ++ y9 a1 s1 ++ y9 a2 s2 ++ y9 a3 s3 ++ y9 a4 s4 ++ y9 a5 s5 ++ y9 a6 s6 ++ y9 a7 s7
set_option maxHeartbeats 4000000 in
theorem xC (a0 a1 a2 a3 a4 a5 a6 a7 : BitVec 32) (s0 s1 s2 s3 s4 s5 s6 s7 : B8) (h0 : s0.length = 32) (h1 : s1.length = 32) (h2 : s2.length = 32) (h3 : s3.length = 32) (h4 : s4.length = 32) (h5 : s5.length = 32) (h6 : s6.length = 32) (h7 : s7.length = 32) :
  AC Tryz.prog 68 [zJ a0 a1 a2 a3 a4 a5 a6 a7 s0 s1 s2 s3 s4 s5 s6 s7] 0 [] ⟨.slice 0 [] 0 288 none, [], [(.row .cell, .u8s (dK a0 a1 a2 a3 a4 a5 a6 a7 s0 s1 s2 s3 s4 s5 s6 s7))]⟩ := by
 have p0 := dX a0
 have l0 := aR (a0.setWidth 64) 4
 have c0 := xS (nbF (a0.setWidth 64) 4) s0 l0 h0
 have y0 : (nbF (a0.setWidth 64) 4 ++ s0).length = 36 := by rw [List.length_append, l0, h0]
 have p1 := dX a1
 have l1 := aR (a1.setWidth 64) 4
 have c1 := dT (nbF (a0.setWidth 64) 4 ++ s0) (nbF (a1.setWidth 64) 4) s1 36 y0 l1 h1 (by decide)
 have y1 : ((nbF (a0.setWidth 64) 4 ++ s0) ++ nbF (a1.setWidth 64) 4 ++ s1).length = 72 := by rw [List.length_append, List.length_append, y0, l1, h1]
 have p2 := dX a2
 have l2 := aR (a2.setWidth 64) 4
 have c2 := dT ((nbF (a0.setWidth 64) 4 ++ s0) ++ nbF (a1.setWidth 64) 4 ++ s1) (nbF (a2.setWidth 64) 4) s2 72 y1 l2 h2 (by decide)
 have y2 : (((nbF (a0.setWidth 64) 4 ++ s0) ++ nbF (a1.setWidth 64) 4 ++ s1) ++ nbF (a2.setWidth 64) 4 ++ s2).length = 108 := by rw [List.length_append, List.length_append, y1, l2, h2]
 have p3 := dX a3
 have l3 := aR (a3.setWidth 64) 4
 have c3 := dT (((nbF (a0.setWidth 64) 4 ++ s0) ++ nbF (a1.setWidth 64) 4 ++ s1) ++ nbF (a2.setWidth 64) 4 ++ s2) (nbF (a3.setWidth 64) 4) s3 108 y2 l3 h3 (by decide)
 have y3 : ((((nbF (a0.setWidth 64) 4 ++ s0) ++ nbF (a1.setWidth 64) 4 ++ s1) ++ nbF (a2.setWidth 64) 4 ++ s2) ++ nbF (a3.setWidth 64) 4 ++ s3).length = 144 := by rw [List.length_append, List.length_append, y2, l3, h3]
 have p4 := dX a4
 have l4 := aR (a4.setWidth 64) 4
 have c4 := dT ((((nbF (a0.setWidth 64) 4 ++ s0) ++ nbF (a1.setWidth 64) 4 ++ s1) ++ nbF (a2.setWidth 64) 4 ++ s2) ++ nbF (a3.setWidth 64) 4 ++ s3) (nbF (a4.setWidth 64) 4) s4 144 y3 l4 h4 (by decide)
 have y4 : (((((nbF (a0.setWidth 64) 4 ++ s0) ++ nbF (a1.setWidth 64) 4 ++ s1) ++ nbF (a2.setWidth 64) 4 ++ s2) ++ nbF (a3.setWidth 64) 4 ++ s3) ++ nbF (a4.setWidth 64) 4 ++ s4).length = 180 := by rw [List.length_append, List.length_append, y3, l4, h4]
 have p5 := dX a5
 have l5 := aR (a5.setWidth 64) 4
 have c5 := dT (((((nbF (a0.setWidth 64) 4 ++ s0) ++ nbF (a1.setWidth 64) 4 ++ s1) ++ nbF (a2.setWidth 64) 4 ++ s2) ++ nbF (a3.setWidth 64) 4 ++ s3) ++ nbF (a4.setWidth 64) 4 ++ s4) (nbF (a5.setWidth 64) 4) s5 180 y4 l5 h5 (by decide)
 have y5 : ((((((nbF (a0.setWidth 64) 4 ++ s0) ++ nbF (a1.setWidth 64) 4 ++ s1) ++ nbF (a2.setWidth 64) 4 ++ s2) ++ nbF (a3.setWidth 64) 4 ++ s3) ++ nbF (a4.setWidth 64) 4 ++ s4) ++ nbF (a5.setWidth 64) 4 ++ s5).length = 216 := by rw [List.length_append, List.length_append, y4, l5, h5]
 have p6 := dX a6
 have l6 := aR (a6.setWidth 64) 4
 have c6 := dT ((((((nbF (a0.setWidth 64) 4 ++ s0) ++ nbF (a1.setWidth 64) 4 ++ s1) ++ nbF (a2.setWidth 64) 4 ++ s2) ++ nbF (a3.setWidth 64) 4 ++ s3) ++ nbF (a4.setWidth 64) 4 ++ s4) ++ nbF (a5.setWidth 64) 4 ++ s5) (nbF (a6.setWidth 64) 4) s6 216 y5 l6 h6 (by decide)
 have y6 : (((((((nbF (a0.setWidth 64) 4 ++ s0) ++ nbF (a1.setWidth 64) 4 ++ s1) ++ nbF (a2.setWidth 64) 4 ++ s2) ++ nbF (a3.setWidth 64) 4 ++ s3) ++ nbF (a4.setWidth 64) 4 ++ s4) ++ nbF (a5.setWidth 64) 4 ++ s5) ++ nbF (a6.setWidth 64) 4 ++ s6).length = 252 := by rw [List.length_append, List.length_append, y5, l6, h6]
 have p7 := dX a7
 have l7 := aR (a7.setWidth 64) 4
 have c7 := dT (((((((nbF (a0.setWidth 64) 4 ++ s0) ++ nbF (a1.setWidth 64) 4 ++ s1) ++ nbF (a2.setWidth 64) 4 ++ s2) ++ nbF (a3.setWidth 64) 4 ++ s3) ++ nbF (a4.setWidth 64) 4 ++ s4) ++ nbF (a5.setWidth 64) 4 ++ s5) ++ nbF (a6.setWidth 64) 4 ++ s6) (nbF (a7.setWidth 64) 4) s7 252 y6 l7 h7 (by decide)
 have y7 : ((((((((nbF (a0.setWidth 64) 4 ++ s0) ++ nbF (a1.setWidth 64) 4 ++ s1) ++ nbF (a2.setWidth 64) 4 ++ s2) ++ nbF (a3.setWidth 64) 4 ++ s3) ++ nbF (a4.setWidth 64) 4 ++ s4) ++ nbF (a5.setWidth 64) 4 ++ s5) ++ nbF (a6.setWidth 64) 4 ++ s6) ++ nbF (a7.setWidth 64) 4 ++ s7).length = 288 := by rw [List.length_append, List.length_append, y6, l7, h7]
 have eN : dK a0 a1 a2 a3 a4 a5 a6 a7 s0 s1 s2 s3 s4 s5 s6 s7 = ((((((((nbF (a0.setWidth 64) 4 ++ s0) ++ nbF (a1.setWidth 64) 4 ++ s1) ++ nbF (a2.setWidth 64) 4 ++ s2) ++ nbF (a3.setWidth 64) 4 ++ s3) ++ nbF (a4.setWidth 64) 4 ++ s4) ++ nbF (a5.setWidth 64) 4 ++ s5) ++ nbF (a6.setWidth 64) 4 ++ s6) ++ nbF (a7.setWidth 64) 4 ++ s7) := by simp only [dK, y9, u4B, List.append_assoc]
 rw [eN]; clear eN
 generalize (nbF (a0.setWidth 64) 4 ++ s0) = Y0 at *
 generalize (Y0 ++ nbF (a1.setWidth 64) 4 ++ s1) = Y1 at *
 generalize (Y1 ++ nbF (a2.setWidth 64) 4 ++ s2) = Y2 at *
 generalize (Y2 ++ nbF (a3.setWidth 64) 4 ++ s3) = Y3 at *
 generalize (Y3 ++ nbF (a4.setWidth 64) 4 ++ s4) = Y4 at *
 generalize (Y4 ++ nbF (a5.setWidth 64) 4 ++ s5) = Y5 at *
 generalize (Y5 ++ nbF (a6.setWidth 64) 4 ++ s6) = Y6 at *
 generalize (Y6 ++ nbF (a7.setWidth 64) 4 ++ s7) = Y7 at *
 generalize nbF (a0.setWidth 64) 4 = z0 at *
 generalize nbF (a1.setWidth 64) 4 = z1 at *
 generalize nbF (a2.setWidth 64) 4 = z2 at *
 generalize nbF (a3.setWidth 64) 4 = z3 at *
 generalize nbF (a4.setWidth 64) 4 = z4 at *
 generalize nbF (a5.setWidth 64) 4 = z5 at *
 generalize nbF (a6.setWidth 64) 4 = z6 at *
 generalize nbF (a7.setWidth 64) 4 = z7 at *
 refine acA tab mix Tryz.func68 ⟨[], [3]⟩ ?_
 refine gob ?_
 refine o0 9 ?_
 refine gob ?_
 refine aB p0 [] ?_
 refine aB (c0.arrAt 2 32 [.fld 1] lK (aA a0 s0)) [3, 2, 1] ?_
 refine aB p1 [] ?_
 refine aB (c1.arrAt 3 32 [.fld 1] lK (aA a1 s1)) [7, 4, 6, 5] ?_
 refine aB p2 [] ?_
 refine aB (c2.arrAt 3 32 [.fld 1] lK (aA a2 s2)) [11, 8, 10, 9] ?_
 refine aB p3 [] ?_
 refine aB (c3.arrAt 3 32 [.fld 1] lK (aA a3 s3)) [15, 12, 14, 13] ?_
 refine aB p4 [] ?_
 refine aB (c4.arrAt 3 32 [.fld 1] lK (aA a4 s4)) [19, 16, 18, 17] ?_
 refine aB p5 [] ?_
 refine aB (c5.arrAt 3 32 [.fld 1] lK (aA a5 s5)) [23, 20, 22, 21] ?_
 refine aB p6 [] ?_
 refine aB (c6.arrAt 3 32 [.fld 1] lK (aA a6 s6)) [27, 24, 26, 25] ?_
 refine aB p7 [] ?_
 refine aB (c7.arrAt 3 32 [.fld 1] lK (aA a7 s7)) [31, 28, 30, 29] ?_
 refine aF [32]
theorem eG {a0 a1 a2 a3 a4 a5 a6 a7 : BitVec 32} {s0 s1 s2 s3 s4 s5 s6 s7 : B8} (h0 : s0.length = 32) (h1 : s1.length = 32) (h2 : s2.length = 32) (h3 : s3.length = 32) (h4 : s4.length = 32) (h5 : s5.length = 32) (h6 : s6.length = 32) (h7 : s7.length = 32) : (dK a0 a1 a2 a3 a4 a5 a6 a7 s0 s1 s2 s3 s4 s5 s6 s7).length = 288 := by
 simp only [dK, List.length_append, bU h0, bU h1, bU h2, bU h3, bU h4, bU h5, bU h6, bU h7]

def aY (S B : B8) (p : Nat) : B8 := aAj (S ++ List.replicate (p + B.length - S.length) 0) B p
theorem cX {S B : B8} {p : Nat} : (aY S B p).length = max S.length (p + B.length) := by
 unfold aY; rw [jE (by rw [List.length_append, List.length_replicate]; omega), List.length_append, List.length_replicate]; omega
theorem aCW {S B : B8} {p : Nat} (h : p + B.length ≤ S.length) : aY S B p = aAj S B p := by
 unfold aY; rw [show p + B.length - S.length = 0 by omega, List.replicate_zero, List.append_nil]
theorem aFr {S B : B8} {p o k N : Nat} (hN : S.length = N) (h : N < p + k) (hB : o + k ≤ B.length) :
  List.take (0 + p) (List.take N (List.drop 0 S) ++ List.replicate ((p : Int) + (k : Int) - (N : Int)).toNat 0) ++
    List.take (k.min (((N + ((p : Int) + (k : Int) - (N : Int)).toNat : Nat) : Int).toNat - p)) (List.drop o B) ++
   List.drop (0 + p + k.min (((N + ((p : Int) + (k : Int) - (N : Int)).toNat : Nat) : Int).toNat - p)) (List.take N (List.drop 0 S) ++ List.replicate ((p : Int) + (k : Int) - (N : Int)).toNat 0) =
  aY S (List.take k (List.drop o B)) p := by
 have hk : (List.take k (List.drop o B)).length = k := by rw [List.length_take, List.length_drop]; omega
 have e1 : ((p : Int) + (k : Int) - (N : Int)).toNat = p + k - N := by omega
 have e2 : k.min (((N + (p + k - N) : Nat) : Int).toNat - p) = k := by
  rw [Int.toNat_natCast, show N + (p + k - N) - p = k by omega]; exact Nat.min_self k
 unfold aY aAj
 rw [e1, e2, hk, List.drop_zero, List.take_of_length_le (l := S) (by omega), hN, Nat.zero_add]
section
variable (S B : B8) (p o k N : Nat) (cap cap2 : Option Nat) (hN : S.length = N) (h : N < p + k) (hB : o + k ≤ B.length) (h0 : 0 < k) (hS : p + k < 70368744177664)
include S B p o k N cap cap2 hN h hB h0 hS
theorem aDs :
  AC Tryz.prog 76 [.slice 0 [] 0 N cap, .i64 p, .slice 1 [] o k cap2] 2 [(0, some ⟨.row .cell, .u8s S, true⟩), (1, some ⟨.row .cell, .u8s B, false⟩)]
   ⟨.slice 2 [] 0 (N + ((p : Int) + (k : Int) - (N : Int)).toNat) none, [(0, none)], [(.row .cell, .u8s (aY S ((B.drop o).take k) p))]⟩ := by
 refine acA tab mix Tryz.func76 {} ?_
 refine gob ?_
 refine ⟨0, ?_⟩
 refine gob ?_
 refine aF [0, 1, 2] (h3 := ?_)
 (repeat' (first | exact trivial | refine And.intro ⟨_, rfl, rfl, ?_, id⟩ ?_ | refine And.intro ⟨_, rfl, rfl, ?_, fun _ => rfl⟩ ?_))
 ·exact congrArg D.u8s (aFr hN h hB)
 ·rfl
theorem aCU :
  AC Tryz.prog 76 [.slice 0 [] 0 N cap, .i64 p, .slice 1 [] o k cap2] 2 [(0, some ⟨.row .cell, .u8s S, true⟩), (1, some ⟨.row .cell, .u8s B, false⟩)]
   ⟨.slice 2 [] 0 (p + k) none, [(0, none)], [(.row .cell, .u8s (aY S ((B.drop o).take k) p))]⟩ := by
 have := aDs S B p o k N cap cap2 hN h hB h0 hS
 rw [show N + ((p : Int) + (k : Int) - (N : Int)).toNat = p + k by omega] at this
 exact this
end
theorem eB {ls : List Lo} {n : Nat} (hn : ls.length = n) (h : ∀ x ∈ ls, x.bytes.length = 512) {S : B8} {x a : Nat} {b : B8} (h1 : a = 512) (h2 : b = (loF S x).bytes) (h3 : (loF S x).bytes.length = 512) :
  iY (aD tLo) ((ls.map loD).take n ++ [D.node [.i64 (512 * x : Nat), .i64 (a : Nat), .u8s b]]) := by subst hn; exact aDr h h1 h2 h3
theorem eA {l0 : Lo} {ls : List Lo} {n : Nat} (hn : ls.length = n) {S : B8} {x a : Nat} {b : B8} (h1 : a = 512) (h2 : b = (loF S x).bytes) :
  D.node (((l0 :: ls).map loD).take (n + 1) ++ [D.node [.i64 (512 * x : Nat), .i64 (a : Nat), .u8s b]]) = b6 ((l0 :: ls) ++ [loF S x]) := by subst hn; exact aDq h1 h2
theorem zH {K q : Nat} {xs : List (Fin K)} (h : xs.map (·.val) = List.range' q 1) : ∃ x : Fin K, xs = [x] ∧ x.val = q := by
 match xs, h with
 |[x], h => exact ⟨x, rfl, by simpa using h⟩
theorem yF {K q : Nat} {xs : List (Fin K)} (h : xs.map (·.val) = List.range' q 2) : ∃ x y : Fin K, xs = [x, y] ∧ x.val = q ∧ y.val = q + 1 := by
 have hl : xs.length = 2 := by simpa using congrArg List.length h
 match xs, hl, h with
 |[x, y], _, h =>
  have h : [x.val, y.val] = [q, q + 1] := h
  exact ⟨x, y, rfl, by simpa using h⟩
section
variable (most N : Nat) (cap : Option Nat) (N2 : Nat) (cap2 : Option Nat) (ls : List Lo) (hls : ∀ x ∈ ls, x.bytes.length = 512) (st q o : Nat) (cap3 : Option Nat) (S B : B8) (hS : S.length = N)
include most N cap N2 cap2 ls hls st q o cap3 S B hS
set_option maxHeartbeats 2000000 in
theorem sU (hq : 512 * q + 512 ≤ N) (hB : o + 512 ≤ B.length) (hN : N < 4611686018427387904) (hp : 512 * q + 512 < 70368744177664) (hl : ls.length < 1000) :
  AC Tryz.prog 164 [.ptr 4 [], .ptr 5 [], .ptr 6 []] 8
   (fB 3 ls ++ [(0, some ⟨tDv, dvD most N cap N2 cap2 (oY 3 ls) st, true⟩), (1, some ⟨.row .cell, .u8s S, true⟩), (4, some ⟨.cell, .ptr 0 [], true⟩), (5, some ⟨.cell, .i64 (512 * q : Nat), true⟩), (6, some ⟨.cell, .slice 7 [] o 512 cap3, true⟩), (7, some ⟨.row .cell, .u8s B, false⟩)])
   ⟨.tup [], (fB 3 ls).map (fun p => (p.1, none)) ++ [(0, some (dvD most N cap N2 cap2 (.slice 8 [] 0 (ls.length + 1) none) st)), (1, some (.u8s (aY S ((B.drop o).take 512) (512 * q))))], [(.row tLo, b6 (ls ++ [loF (aY S ((B.drop o).take 512) (512 * q)) q]))]⟩ := by
 have hBl : ((B.drop o).take 512).length = 512 := by rw [List.length_take, List.length_drop]; omega
 have hlay := aEj S B (512 * q) o 512 N cap cap3 hS hq hB (by decide) hN
 rw [← aCW (S := S) (B := (B.drop o).take 512) (p := 512 * q) (by rw [hBl]; omega)] at hlay
 have hsec := iM (512 * q) 512 (by omega) (by decide)
 have hL : (aY S ((B.drop o).take 512) (512 * q)).length = N := by rw [cX, hBl]; omega
 generalize (aY S ((B.drop o).take 512) (512 * q)) = S' at hlay hL ⊢
 refine acA tab mix Tryz.func164 {} ?_
 cases ls
 ·refine gob ?_
  refine aB hlay [1, 7] ?_
  refine aB hsec [] ?_
  have hg := bR 8 9 (512 * q) 512 q 1 (N / 512) (rw1 := true) (rw2 := true) (by omega) (by omega) (by rw [if_neg (by decide)]; omega) (by omega) (by omega) (by omega)
  refine RangeG.mk ⟨175, [.ptr 8 [], .ptr 9 []], [(8, ⟨.cell, .i64 (512 * q : Nat), true⟩), (9, ⟨.cell, .i64 (512 : Nat), true⟩)], Fin (N / 512), fun x => .i64 (512 * x.val : Nat), fun ys => ys.map (·.val) = List.range' q 1, 1, 19, 3, 2, _,
   fun pre => match pre with
    |[] => [(0, some ⟨tDv, dvD most N cap N2 cap2 (.nilslice) st, true⟩), (1, some ⟨.row .cell, .u8s S', true⟩), (4, some ⟨.cell, .ptr 0 [], true⟩), (5, some ⟨.cell, .i64 (512 * q : Nat), true⟩), (6, some ⟨.cell, .slice 7 [] o 512 cap3, true⟩), (7, some ⟨.row .cell, .u8s B, false⟩), (8, some ⟨.cell, .i64 (512 * q : Nat), true⟩), (9, some ⟨.cell, .i64 (512 : Nat), true⟩)]
    |x :: _ => [(0, some ⟨tDv, dvD most N cap N2 cap2 (.slice 10 [] 0 (1) none) st, true⟩), (1, some ⟨.row .cell, .u8s S', true⟩), (10, some ⟨.row tLo, b6 ([] ++ [loF S' x.val]), true⟩), (4, some ⟨.cell, .ptr 0 [], true⟩), (5, some ⟨.cell, .i64 (512 * q : Nat), true⟩), (6, some ⟨.cell, .slice 7 [] o 512 cap3, true⟩), (7, some ⟨.row .cell, .u8s B, false⟩), (8, some ⟨.cell, .i64 (512 * q : Nat), true⟩), (9, some ⟨.cell, .i64 (512 : Nat), true⟩)],
   11, [0, 1, 2, 3, 4, 5, 6, 7, 8, 9], rfl, hg, ⟨rfl, rfl, rfl, rfl, rfl, by decide, by decide⟩, ?_, ?_, ?_, ?_⟩
  ·intro p hp
   rcases List.mem_cons.1 hp with rfl | hp
   ·exact ⟨Nat.le_of_ble_eq_true rfl, rfl, fun pre => by cases pre <;> rfl⟩
   rcases List.mem_cons.1 hp with rfl | hp
   ·exact ⟨Nat.le_of_ble_eq_true rfl, rfl, fun pre => by cases pre <;> rfl⟩
   cases hp
  ·exact viewA
  ·intro pre x hlt
   have hx : 512 * x.val + 512 ≤ N := by have := x.isLt; omega
   have e1 := lQ S' N x.val hx
   have e2 := bD S' x.val (by omega)
   have e3 : (N - 512 * x.val).min (512 - 0) = 512 := Nat.min_eq_right (by omega)
   obtain rfl : pre = [] := by cases pre; rfl; simp at hlt
   refine gob ?_
   refine ⟨1, ?_⟩
   refine EffG.mk (And.intro ?_ ?_)
   ·(repeat' (first | exact trivial | refine And.intro ?_ ?_)) <;> first | omega | exact Nat.le_refl _ | rfl | exact (congrArg List.length e1).trans e2 | decide
   refine gob ?_
   refine ⟨[0, 1, 2, 3, 4, 5, 6, 7, 8, 9, 13], viewA (h3 := ?_)⟩
   (repeat' (first | exact trivial | refine And.intro ⟨_, rfl, rfl, ?_, id⟩ ?_ | refine And.intro ⟨_, rfl, rfl, ?_, fun _ => rfl⟩ ?_)) <;> first | rfl | exact (congrArg (fun d => D.node [d]) (k9 e3 e1)).trans (Pure.ren (d := b6 [loF S' x.val]) _).symm
  ·intro xs hxs
   obtain ⟨x, rfl, hy⟩ := zH hxs
   refine gob ?_
   refine aF [0, 1, 2, 3, 4, 5, 6, 7, 10] (h3 := ?_)
   (repeat' (first | exact trivial | refine And.intro ⟨_, rfl, rfl, ?_, id⟩ ?_ | refine And.intro ⟨_, rfl, rfl, ?_, fun _ => rfl⟩ ?_)) <;> first | rfl | exact (Pure.ren _).symm | exact (congrArg (fun v => b6 ([] ++ [loF S' v])) hy).trans (Pure.ren _).symm
 ·rename_i l0 ls
  have hl2 : ls.length + 1 < 1000 := hl
  have hls1 := hls l0 (by simp)
  have hls2 : ∀ x ∈ ls, x.bytes.length = 512 := fun x hx => hls x (by simp [hx])
  refine gob ?_
  refine aB hlay [1, 7] ?_
  refine aB hsec [] ?_
  have hg := bR 8 9 (512 * q) 512 q 1 (N / 512) (rw1 := true) (rw2 := true) (by omega) (by omega) (by rw [if_neg (by decide)]; omega) (by omega) (by omega) (by omega)
  refine RangeG.mk ⟨175, [.ptr 8 [], .ptr 9 []], [(8, ⟨.cell, .i64 (512 * q : Nat), true⟩), (9, ⟨.cell, .i64 (512 : Nat), true⟩)], Fin (N / 512), fun x => .i64 (512 * x.val : Nat), fun ys => ys.map (·.val) = List.range' q 1, 1, 19, 3, 2, _,
   fun pre => match pre with
    |[] => [(0, some ⟨tDv, dvD most N cap N2 cap2 (.slice 3 [] 0 (ls.length + 1) none) st, true⟩), (1, some ⟨.row .cell, .u8s S', true⟩), (3, some ⟨.row tLo, b6 (l0 :: ls), true⟩), (4, some ⟨.cell, .ptr 0 [], true⟩), (5, some ⟨.cell, .i64 (512 * q : Nat), true⟩), (6, some ⟨.cell, .slice 7 [] o 512 cap3, true⟩), (7, some ⟨.row .cell, .u8s B, false⟩), (8, some ⟨.cell, .i64 (512 * q : Nat), true⟩), (9, some ⟨.cell, .i64 (512 : Nat), true⟩)]
    |x :: _ => [(0, some ⟨tDv, dvD most N cap N2 cap2 (.slice 10 [] 0 (ls.length + 1 + 1) none) st, true⟩), (1, some ⟨.row .cell, .u8s S', true⟩), (10, some ⟨.row tLo, b6 ((l0 :: ls) ++ [loF S' x.val]), true⟩), (4, some ⟨.cell, .ptr 0 [], true⟩), (5, some ⟨.cell, .i64 (512 * q : Nat), true⟩), (6, some ⟨.cell, .slice 7 [] o 512 cap3, true⟩), (7, some ⟨.row .cell, .u8s B, false⟩), (8, some ⟨.cell, .i64 (512 * q : Nat), true⟩), (9, some ⟨.cell, .i64 (512 : Nat), true⟩)],
   11, [0, 1, 2, 3, 4, 5, 6, 7, 8, 9], rfl, hg, ⟨rfl, rfl, rfl, rfl, rfl, by decide, by decide⟩, ?_, ?_, ?_, ?_⟩
  ·intro p hp
   rcases List.mem_cons.1 hp with rfl | hp
   ·exact ⟨Nat.le_of_ble_eq_true rfl, rfl, fun pre => by cases pre <;> rfl⟩
   rcases List.mem_cons.1 hp with rfl | hp
   ·exact ⟨Nat.le_of_ble_eq_true rfl, rfl, fun pre => by cases pre <;> rfl⟩
   cases hp
  ·exact viewA
  ·intro pre x hlt
   have hx : 512 * x.val + 512 ≤ N := by have := x.isLt; omega
   have e1 := lQ S' N x.val hx
   have e2 := bD S' x.val (by omega)
   have e3 : (N - 512 * x.val).min (512 - 0) = 512 := Nat.min_eq_right (by omega)
   obtain rfl : pre = [] := by cases pre; rfl; simp at hlt
   refine gob ?_
   refine ⟨0, ?_⟩
   refine EffG.mk (And.intro ?_ ?_)
   ·(repeat' (first | exact trivial | refine And.intro ?_ ?_)) <;> first | omega | exact Nat.le_refl _ | rfl | exact (congrArg List.length e1).trans e2 | decide | exact (show (ls.length + 1 + 1) * 528 ≤ 140737488355328 by omega) | exact (show ls.length + 1 + 1 < 9223372036854775808 by omega) | exact hls1 | exact (show 0 + (ls.length + 1) ≤ ((l0 :: ls).map loD).length by rw [List.length_map, List.length_cons]; omega) | exact eB rfl hls2 e3 e1 e2
   refine gob ?_
   refine ⟨[0, 1, 2, 3, 4, 5, 6, 7, 8, 9, 13], viewA (h3 := ?_)⟩
   (repeat' (first | exact trivial | refine And.intro ⟨_, rfl, rfl, ?_, id⟩ ?_ | refine And.intro ⟨_, rfl, rfl, ?_, fun _ => rfl⟩ ?_)) <;> first | rfl | exact (eA (l0 := l0) (ls := ls) rfl e3 e1).trans (Pure.ren (d := b6 ((l0 :: ls) ++ [loF S' x.val])) _).symm
  ·intro xs hxs
   obtain ⟨x, rfl, hy⟩ := zH hxs
   refine gob ?_
   refine aF [0, 1, 2, 3, 4, 5, 6, 7, 10] (h3 := ?_)
   (repeat' (first | exact trivial | refine And.intro ⟨_, rfl, rfl, ?_, id⟩ ?_ | refine And.intro ⟨_, rfl, rfl, ?_, fun _ => rfl⟩ ?_)) <;> first | rfl | exact (Pure.ren _).symm | exact (congrArg (fun v => b6 ((l0 :: ls) ++ [loF S' v])) hy).trans (Pure.ren _).symm
set_option maxHeartbeats 2000000 in
theorem sS (hq : 512 * q + 1024 ≤ N) (hB : o + 1024 ≤ B.length) (hN : N < 4611686018427387904) (hp : 512 * q + 1024 < 70368744177664) (hl : ls.length < 1000) :
  AC Tryz.prog 164 [.ptr 4 [], .ptr 5 [], .ptr 6 []] 8
   (fB 3 ls ++ [(0, some ⟨tDv, dvD most N cap N2 cap2 (oY 3 ls) st, true⟩), (1, some ⟨.row .cell, .u8s S, true⟩), (4, some ⟨.cell, .ptr 0 [], true⟩), (5, some ⟨.cell, .i64 (512 * q : Nat), true⟩), (6, some ⟨.cell, .slice 7 [] o 1024 cap3, true⟩), (7, some ⟨.row .cell, .u8s B, false⟩)])
   ⟨.tup [], (fB 3 ls).map (fun p => (p.1, none)) ++ [(0, some (dvD most N cap N2 cap2 (.slice 8 [] 0 (ls.length + 2) none) st)), (1, some (.u8s (aY S ((B.drop o).take 1024) (512 * q))))], [(.row tLo, b6 (ls ++ [loF (aY S ((B.drop o).take 1024) (512 * q)) q] ++ [loF (aY S ((B.drop o).take 1024) (512 * q)) (q + 1)]))]⟩ := by
 have hBl : ((B.drop o).take 1024).length = 1024 := by rw [List.length_take, List.length_drop]; omega
 have hlay := aEj S B (512 * q) o 1024 N cap cap3 hS hq hB (by decide) hN
 rw [← aCW (S := S) (B := (B.drop o).take 1024) (p := 512 * q) (by rw [hBl]; omega)] at hlay
 have hsec := iM (512 * q) 1024 (by omega) (by decide)
 have hL : (aY S ((B.drop o).take 1024) (512 * q)).length = N := by rw [cX, hBl]; omega
 generalize (aY S ((B.drop o).take 1024) (512 * q)) = S' at hlay hL ⊢
 refine acA tab mix Tryz.func164 {} ?_
 cases ls
 ·refine gob ?_
  refine aB hlay [1, 7] ?_
  refine aB hsec [] ?_
  have hg := bR 8 9 (512 * q) 1024 q 2 (N / 512) (rw1 := true) (rw2 := true) (by omega) (by omega) (by rw [if_neg (by decide)]; omega) (by omega) (by omega) (by omega)
  refine RangeG.mk ⟨175, [.ptr 8 [], .ptr 9 []], [(8, ⟨.cell, .i64 (512 * q : Nat), true⟩), (9, ⟨.cell, .i64 (1024 : Nat), true⟩)], Fin (N / 512), fun x => .i64 (512 * x.val : Nat), fun ys => ys.map (·.val) = List.range' q 2, 2, 19, 3, 2, _,
   fun pre => match pre with
    |[] => [(0, some ⟨tDv, dvD most N cap N2 cap2 (.nilslice) st, true⟩), (1, some ⟨.row .cell, .u8s S', true⟩), (4, some ⟨.cell, .ptr 0 [], true⟩), (5, some ⟨.cell, .i64 (512 * q : Nat), true⟩), (6, some ⟨.cell, .slice 7 [] o 1024 cap3, true⟩), (7, some ⟨.row .cell, .u8s B, false⟩), (8, some ⟨.cell, .i64 (512 * q : Nat), true⟩), (9, some ⟨.cell, .i64 (1024 : Nat), true⟩)]
    |[x] => [(0, some ⟨tDv, dvD most N cap N2 cap2 (.slice 10 [] 0 (1) none) st, true⟩), (1, some ⟨.row .cell, .u8s S', true⟩), (10, some ⟨.row tLo, b6 ([] ++ [loF S' x.val]), true⟩), (4, some ⟨.cell, .ptr 0 [], true⟩), (5, some ⟨.cell, .i64 (512 * q : Nat), true⟩), (6, some ⟨.cell, .slice 7 [] o 1024 cap3, true⟩), (7, some ⟨.row .cell, .u8s B, false⟩), (8, some ⟨.cell, .i64 (512 * q : Nat), true⟩), (9, some ⟨.cell, .i64 (1024 : Nat), true⟩)]
    |x :: y :: _ => [(0, some ⟨tDv, dvD most N cap N2 cap2 (.slice 10 [] 0 (2) none) st, true⟩), (1, some ⟨.row .cell, .u8s S', true⟩), (10, some ⟨.row tLo, b6 ([] ++ [loF S' x.val] ++ [loF S' y.val]), true⟩), (4, some ⟨.cell, .ptr 0 [], true⟩), (5, some ⟨.cell, .i64 (512 * q : Nat), true⟩), (6, some ⟨.cell, .slice 7 [] o 1024 cap3, true⟩), (7, some ⟨.row .cell, .u8s B, false⟩), (8, some ⟨.cell, .i64 (512 * q : Nat), true⟩), (9, some ⟨.cell, .i64 (1024 : Nat), true⟩)],
   11, [0, 1, 2, 3, 4, 5, 6, 7, 8, 9], rfl, hg, ⟨rfl, rfl, rfl, rfl, rfl, by decide, by decide⟩, ?_, ?_, ?_, ?_⟩
  ·intro p hp
   rcases List.mem_cons.1 hp with rfl | hp
   ·exact ⟨Nat.le_of_ble_eq_true rfl, rfl, fun pre => by rcases pre with _ | ⟨a, _ | ⟨b, c⟩⟩ <;> rfl⟩
   rcases List.mem_cons.1 hp with rfl | hp
   ·exact ⟨Nat.le_of_ble_eq_true rfl, rfl, fun pre => by rcases pre with _ | ⟨a, _ | ⟨b, c⟩⟩ <;> rfl⟩
   cases hp
  ·exact viewA
  ·intro pre x hlt
   have hx : 512 * x.val + 512 ≤ N := by have := x.isLt; omega
   have e1 := lQ S' N x.val hx
   have e2 := bD S' x.val (by omega)
   have e3 : (N - 512 * x.val).min (512 - 0) = 512 := Nat.min_eq_right (by omega)
   match pre, hlt with
   |[], _ =>
    refine gob ?_
    refine ⟨1, ?_⟩
    refine EffG.mk (And.intro ?_ ?_)
    ·(repeat' (first | exact trivial | refine And.intro ?_ ?_)) <;> first | omega | exact Nat.le_refl _ | rfl | exact (congrArg List.length e1).trans e2 | decide
    refine gob ?_
    refine ⟨[0, 1, 2, 3, 4, 5, 6, 7, 8, 9, 13], viewA (h3 := ?_)⟩
    (repeat' (first | exact trivial | refine And.intro ⟨_, rfl, rfl, ?_, id⟩ ?_ | refine And.intro ⟨_, rfl, rfl, ?_, fun _ => rfl⟩ ?_)) <;> first | rfl | exact (congrArg (fun d => D.node [d]) (k9 e3 e1)).trans (Pure.ren (d := b6 [loF S' x.val]) _).symm
   |[w], _ =>
    have hw1 := bD S' w.val (by have := w.isLt; omega)
    refine gob ?_
    refine ⟨0, ?_⟩
    refine EffG.mk (And.intro ?_ ?_)
    ·(repeat' (first | exact trivial | refine And.intro ?_ ?_)) <;> first | omega | exact Nat.le_refl _ | rfl | exact (congrArg List.length e1).trans e2 | decide | exact (show (0 + 1 + 1) * 528 ≤ 140737488355328 by omega) | exact (show 0 + 1 + 1 < 9223372036854775808 by omega) | exact hw1 | exact (show 0 + (0 + 1) ≤ ((loF S' w.val :: ([] : List Lo)).map loD).length by rw [List.length_map, List.length_cons]; omega) | exact eB rfl (fun x hx => by simp at hx) e3 e1 e2
    refine gob ?_
    refine ⟨[0, 1, 2, 3, 4, 5, 6, 7, 8, 9, 13], viewA (h3 := ?_)⟩
    (repeat' (first | exact trivial | refine And.intro ⟨_, rfl, rfl, ?_, id⟩ ?_ | refine And.intro ⟨_, rfl, rfl, ?_, fun _ => rfl⟩ ?_)) <;> first | rfl | exact (eA (l0 := loF S' w.val) (ls := ([] : List Lo)) rfl e3 e1).trans (Pure.ren (d := b6 ((loF S' w.val :: ([] : List Lo)) ++ [loF S' x.val])) _).symm
  ·intro xs hxs
   obtain ⟨x, y, rfl, hz, hy⟩ := yF hxs
   refine gob ?_
   refine aF [0, 1, 2, 3, 4, 5, 6, 7, 10] (h3 := ?_)
   (repeat' (first | exact trivial | refine And.intro ⟨_, rfl, rfl, ?_, id⟩ ?_ | refine And.intro ⟨_, rfl, rfl, ?_, fun _ => rfl⟩ ?_)) <;> first | rfl | exact (Pure.ren _).symm | exact ((congrArg (fun u => b6 ([] ++ [loF S' u] ++ [loF S' y.val])) hz).trans (congrArg (fun v => b6 ([] ++ [loF S' q] ++ [loF S' v])) hy)).trans (Pure.ren _).symm
 ·rename_i l0 ls
  have hl2 : ls.length + 1 < 1000 := hl
  have hls1 := hls l0 (by simp)
  have hls2 : ∀ x ∈ ls, x.bytes.length = 512 := fun x hx => hls x (by simp [hx])
  refine gob ?_
  refine aB hlay [1, 7] ?_
  refine aB hsec [] ?_
  have hg := bR 8 9 (512 * q) 1024 q 2 (N / 512) (rw1 := true) (rw2 := true) (by omega) (by omega) (by rw [if_neg (by decide)]; omega) (by omega) (by omega) (by omega)
  refine RangeG.mk ⟨175, [.ptr 8 [], .ptr 9 []], [(8, ⟨.cell, .i64 (512 * q : Nat), true⟩), (9, ⟨.cell, .i64 (1024 : Nat), true⟩)], Fin (N / 512), fun x => .i64 (512 * x.val : Nat), fun ys => ys.map (·.val) = List.range' q 2, 2, 19, 3, 2, _,
   fun pre => match pre with
    |[] => [(0, some ⟨tDv, dvD most N cap N2 cap2 (.slice 3 [] 0 (ls.length + 1) none) st, true⟩), (1, some ⟨.row .cell, .u8s S', true⟩), (3, some ⟨.row tLo, b6 (l0 :: ls), true⟩), (4, some ⟨.cell, .ptr 0 [], true⟩), (5, some ⟨.cell, .i64 (512 * q : Nat), true⟩), (6, some ⟨.cell, .slice 7 [] o 1024 cap3, true⟩), (7, some ⟨.row .cell, .u8s B, false⟩), (8, some ⟨.cell, .i64 (512 * q : Nat), true⟩), (9, some ⟨.cell, .i64 (1024 : Nat), true⟩)]
    |[x] => [(0, some ⟨tDv, dvD most N cap N2 cap2 (.slice 10 [] 0 (ls.length + 1 + 1) none) st, true⟩), (1, some ⟨.row .cell, .u8s S', true⟩), (10, some ⟨.row tLo, b6 ((l0 :: ls) ++ [loF S' x.val]), true⟩), (4, some ⟨.cell, .ptr 0 [], true⟩), (5, some ⟨.cell, .i64 (512 * q : Nat), true⟩), (6, some ⟨.cell, .slice 7 [] o 1024 cap3, true⟩), (7, some ⟨.row .cell, .u8s B, false⟩), (8, some ⟨.cell, .i64 (512 * q : Nat), true⟩), (9, some ⟨.cell, .i64 (1024 : Nat), true⟩)]
    |x :: y :: _ => [(0, some ⟨tDv, dvD most N cap N2 cap2 (.slice 10 [] 0 (ls.length + 1 + 1 + 1) none) st, true⟩), (1, some ⟨.row .cell, .u8s S', true⟩), (10, some ⟨.row tLo, b6 ((l0 :: ls) ++ [loF S' x.val] ++ [loF S' y.val]), true⟩), (4, some ⟨.cell, .ptr 0 [], true⟩), (5, some ⟨.cell, .i64 (512 * q : Nat), true⟩), (6, some ⟨.cell, .slice 7 [] o 1024 cap3, true⟩), (7, some ⟨.row .cell, .u8s B, false⟩), (8, some ⟨.cell, .i64 (512 * q : Nat), true⟩), (9, some ⟨.cell, .i64 (1024 : Nat), true⟩)],
   11, [0, 1, 2, 3, 4, 5, 6, 7, 8, 9], rfl, hg, ⟨rfl, rfl, rfl, rfl, rfl, by decide, by decide⟩, ?_, ?_, ?_, ?_⟩
  ·intro p hp
   rcases List.mem_cons.1 hp with rfl | hp
   ·exact ⟨Nat.le_of_ble_eq_true rfl, rfl, fun pre => by rcases pre with _ | ⟨a, _ | ⟨b, c⟩⟩ <;> rfl⟩
   rcases List.mem_cons.1 hp with rfl | hp
   ·exact ⟨Nat.le_of_ble_eq_true rfl, rfl, fun pre => by rcases pre with _ | ⟨a, _ | ⟨b, c⟩⟩ <;> rfl⟩
   cases hp
  ·exact viewA
  ·intro pre x hlt
   have hx : 512 * x.val + 512 ≤ N := by have := x.isLt; omega
   have e1 := lQ S' N x.val hx
   have e2 := bD S' x.val (by omega)
   have e3 : (N - 512 * x.val).min (512 - 0) = 512 := Nat.min_eq_right (by omega)
   match pre, hlt with
   |[], _ =>
    refine gob ?_
    refine ⟨0, ?_⟩
    refine EffG.mk (And.intro ?_ ?_)
    ·(repeat' (first | exact trivial | refine And.intro ?_ ?_)) <;> first | omega | exact Nat.le_refl _ | rfl | exact (congrArg List.length e1).trans e2 | decide | exact (show (ls.length + 1 + 1) * 528 ≤ 140737488355328 by omega) | exact (show ls.length + 1 + 1 < 9223372036854775808 by omega) | exact hls1 | exact (show 0 + (ls.length + 1) ≤ ((l0 :: ls).map loD).length by rw [List.length_map, List.length_cons]; omega) | exact eB rfl hls2 e3 e1 e2
    refine gob ?_
    refine ⟨[0, 1, 2, 3, 4, 5, 6, 7, 8, 9, 13], viewA (h3 := ?_)⟩
    (repeat' (first | exact trivial | refine And.intro ⟨_, rfl, rfl, ?_, id⟩ ?_ | refine And.intro ⟨_, rfl, rfl, ?_, fun _ => rfl⟩ ?_)) <;> first | rfl | exact (eA (l0 := l0) (ls := ls) rfl e3 e1).trans (Pure.ren (d := b6 ((l0 :: ls) ++ [loF S' x.val])) _).symm
   |[w], _ =>
    have hw2 : ∀ x ∈ ls ++ [loF S' w.val], x.bytes.length = 512 := fun x hx => by
     rcases List.mem_append.1 hx with h | h
     ·exact hls2 x h
     ·rw [List.mem_singleton.1 h]; exact bD S' w.val (by have := w.isLt; omega)
    have hwn : (ls ++ [loF S' w.val]).length = ls.length + 1 := by rw [List.length_append]; rfl
    refine gob ?_
    refine ⟨0, ?_⟩
    refine EffG.mk (And.intro ?_ ?_)
    ·(repeat' (first | exact trivial | refine And.intro ?_ ?_)) <;> first | omega | exact Nat.le_refl _ | rfl | exact (congrArg List.length e1).trans e2 | decide | exact (show ((ls.length + 1) + 1 + 1) * 528 ≤ 140737488355328 by omega) | exact (show (ls.length + 1) + 1 + 1 < 9223372036854775808 by omega) | exact hls1 | exact (show 0 + ((ls.length + 1) + 1) ≤ ((l0 :: (ls ++ [loF S' w.val])).map loD).length by rw [List.length_map, List.length_cons, hwn]; omega) | exact eB hwn hw2 e3 e1 e2
    refine gob ?_
    refine ⟨[0, 1, 2, 3, 4, 5, 6, 7, 8, 9, 13], viewA (h3 := ?_)⟩
    (repeat' (first | exact trivial | refine And.intro ⟨_, rfl, rfl, ?_, id⟩ ?_ | refine And.intro ⟨_, rfl, rfl, ?_, fun _ => rfl⟩ ?_)) <;> first | rfl | exact (eA (l0 := l0) (ls := (ls ++ [loF S' w.val])) hwn e3 e1).trans (Pure.ren (d := b6 ((l0 :: (ls ++ [loF S' w.val])) ++ [loF S' x.val])) _).symm
  ·intro xs hxs
   obtain ⟨x, y, rfl, hz, hy⟩ := yF hxs
   refine gob ?_
   refine aF [0, 1, 2, 3, 4, 5, 6, 7, 10] (h3 := ?_)
   (repeat' (first | exact trivial | refine And.intro ⟨_, rfl, rfl, ?_, id⟩ ?_ | refine And.intro ⟨_, rfl, rfl, ?_, fun _ => rfl⟩ ?_)) <;> first | rfl | exact (Pure.ren _).symm | exact ((congrArg (fun u => b6 ((l0 :: ls) ++ [loF S' u] ++ [loF S' y.val])) hz).trans (congrArg (fun v => b6 ((l0 :: ls) ++ [loF S' q] ++ [loF S' v])) hy)).trans (Pure.ren _).symm
set_option maxHeartbeats 2000000 in
theorem sR (hq : N < 512 * q + 512) (hB : o + 512 ≤ B.length) (hN : N < 4611686018427387904) (hp : 512 * q + 512 < 70368744177664) (hl : ls.length < 1000) :
  AC Tryz.prog 164 [.ptr 4 [], .ptr 5 [], .ptr 6 []] 8
   (fB 3 ls ++ [(0, some ⟨tDv, dvD most N cap N2 cap2 (oY 3 ls) st, true⟩), (1, some ⟨.row .cell, .u8s S, true⟩), (4, some ⟨.cell, .ptr 0 [], true⟩), (5, some ⟨.cell, .i64 (512 * q : Nat), true⟩), (6, some ⟨.cell, .slice 7 [] o 512 cap3, true⟩), (7, some ⟨.row .cell, .u8s B, false⟩)])
   ⟨.tup [], (fB 3 ls).map (fun p => (p.1, none)) ++ [(0, some (.node [.i64 most, .slice 8 [] 0 (512 * q + 512) none, .slice 2 [] 0 N2 cap2, .slice 9 [] 0 (ls.length + 1) none, .i64 st, .bool false, .nilptr])), (1, none)], [(.row .cell, .u8s (aY S ((B.drop o).take 512) (512 * q))), (.row tLo, b6 (ls ++ [loF (aY S ((B.drop o).take 512) (512 * q)) q]))]⟩ := by
 have hBl : ((B.drop o).take 512).length = 512 := by rw [List.length_take, List.length_drop]; omega
 have hlay := aCU S B (512 * q) o 512 N cap cap3 hS hq hB (by decide) hp
 have hsec := iM (512 * q) 512 (by omega) (by decide)
 have hL : (aY S ((B.drop o).take 512) (512 * q)).length = (512 * q + 512) := by rw [cX, hBl]; omega
 generalize (aY S ((B.drop o).take 512) (512 * q)) = S' at hlay hL ⊢
 refine acA tab mix Tryz.func164 {} ?_
 cases ls
 ·refine gob ?_
  refine aB hlay [1, 7] ?_
  refine aB hsec [] ?_
  have hg := bR 9 10 (512 * q) 512 q 1 ((512 * q + 512) / 512) (rw1 := true) (rw2 := true) (by omega) (by omega) (by rw [if_neg (by decide)]; omega) (by omega) (by omega) (by omega)
  refine RangeG.mk ⟨175, [.ptr 9 [], .ptr 10 []], [(9, ⟨.cell, .i64 (512 * q : Nat), true⟩), (10, ⟨.cell, .i64 (512 : Nat), true⟩)], Fin ((512 * q + 512) / 512), fun x => .i64 (512 * x.val : Nat), fun ys => ys.map (·.val) = List.range' q 1, 1, 19, 3, 2, _,
   fun pre => match pre with
    |[] => [(0, some ⟨tDv, .node [.i64 most, .slice 8 [] 0 (512 * q + 512) none, .slice 2 [] 0 N2 cap2, .nilslice, .i64 st, .bool false, .nilptr], true⟩), (8, some ⟨.row .cell, .u8s S', true⟩), (4, some ⟨.cell, .ptr 0 [], true⟩), (5, some ⟨.cell, .i64 (512 * q : Nat), true⟩), (6, some ⟨.cell, .slice 7 [] o 512 cap3, true⟩), (7, some ⟨.row .cell, .u8s B, false⟩), (9, some ⟨.cell, .i64 (512 * q : Nat), true⟩), (10, some ⟨.cell, .i64 (512 : Nat), true⟩)]
    |x :: _ => [(0, some ⟨tDv, .node [.i64 most, .slice 8 [] 0 (512 * q + 512) none, .slice 2 [] 0 N2 cap2, .slice 11 [] 0 (1) none, .i64 st, .bool false, .nilptr], true⟩), (8, some ⟨.row .cell, .u8s S', true⟩), (11, some ⟨.row tLo, b6 ([] ++ [loF S' x.val]), true⟩), (4, some ⟨.cell, .ptr 0 [], true⟩), (5, some ⟨.cell, .i64 (512 * q : Nat), true⟩), (6, some ⟨.cell, .slice 7 [] o 512 cap3, true⟩), (7, some ⟨.row .cell, .u8s B, false⟩), (9, some ⟨.cell, .i64 (512 * q : Nat), true⟩), (10, some ⟨.cell, .i64 (512 : Nat), true⟩)],
   12, [0, 1, 2, 3, 4, 5, 6, 7, 8, 9, 10], rfl, hg, ⟨rfl, rfl, rfl, rfl, rfl, by decide, by decide⟩, ?_, ?_, ?_, ?_⟩
  ·intro p hp
   rcases List.mem_cons.1 hp with rfl | hp
   ·exact ⟨Nat.le_of_ble_eq_true rfl, rfl, fun pre => by cases pre <;> rfl⟩
   rcases List.mem_cons.1 hp with rfl | hp
   ·exact ⟨Nat.le_of_ble_eq_true rfl, rfl, fun pre => by cases pre <;> rfl⟩
   cases hp
  ·exact viewA
  ·intro pre x hlt
   have hx : 512 * x.val + 512 ≤ (512 * q + 512) := by have := x.isLt; omega
   have e1 := lQ S' (512 * q + 512) x.val hx
   have e2 := bD S' x.val (by omega)
   have e3 : ((512 * q + 512) - 512 * x.val).min (512 - 0) = 512 := Nat.min_eq_right (by omega)
   obtain rfl : pre = [] := by cases pre; rfl; simp at hlt
   refine gob ?_
   refine ⟨1, ?_⟩
   refine EffG.mk (And.intro ?_ ?_)
   ·(repeat' (first | exact trivial | refine And.intro ?_ ?_)) <;> first | omega | exact Nat.le_refl _ | rfl | exact (congrArg List.length e1).trans e2 | decide
   refine gob ?_
   refine ⟨[0, 1, 2, 3, 4, 5, 6, 7, 8, 9, 10, 14], viewA (h3 := ?_)⟩
   (repeat' (first | exact trivial | refine And.intro ⟨_, rfl, rfl, ?_, id⟩ ?_ | refine And.intro ⟨_, rfl, rfl, ?_, fun _ => rfl⟩ ?_)) <;> first | rfl | exact (congrArg (fun d => D.node [d]) (k9 e3 e1)).trans (Pure.ren (d := b6 [loF S' x.val]) _).symm
  ·intro xs hxs
   obtain ⟨x, rfl, hy⟩ := zH hxs
   refine gob ?_
   refine aF [0, 1, 2, 3, 4, 5, 6, 7, 8, 11] (h3 := ?_)
   (repeat' (first | exact trivial | refine And.intro ⟨_, rfl, rfl, ?_, id⟩ ?_ | refine And.intro ⟨_, rfl, rfl, ?_, fun _ => rfl⟩ ?_)) <;> first | rfl | exact (Pure.ren _).symm | exact (congrArg (fun v => b6 ([] ++ [loF S' v])) hy).trans (Pure.ren _).symm
 ·rename_i l0 ls
  have hl2 : ls.length + 1 < 1000 := hl
  have hls1 := hls l0 (by simp)
  have hls2 : ∀ x ∈ ls, x.bytes.length = 512 := fun x hx => hls x (by simp [hx])
  refine gob ?_
  refine aB hlay [1, 7] ?_
  refine aB hsec [] ?_
  have hg := bR 9 10 (512 * q) 512 q 1 ((512 * q + 512) / 512) (rw1 := true) (rw2 := true) (by omega) (by omega) (by rw [if_neg (by decide)]; omega) (by omega) (by omega) (by omega)
  refine RangeG.mk ⟨175, [.ptr 9 [], .ptr 10 []], [(9, ⟨.cell, .i64 (512 * q : Nat), true⟩), (10, ⟨.cell, .i64 (512 : Nat), true⟩)], Fin ((512 * q + 512) / 512), fun x => .i64 (512 * x.val : Nat), fun ys => ys.map (·.val) = List.range' q 1, 1, 19, 3, 2, _,
   fun pre => match pre with
    |[] => [(0, some ⟨tDv, .node [.i64 most, .slice 8 [] 0 (512 * q + 512) none, .slice 2 [] 0 N2 cap2, .slice 3 [] 0 (ls.length + 1) none, .i64 st, .bool false, .nilptr], true⟩), (8, some ⟨.row .cell, .u8s S', true⟩), (3, some ⟨.row tLo, b6 (l0 :: ls), true⟩), (4, some ⟨.cell, .ptr 0 [], true⟩), (5, some ⟨.cell, .i64 (512 * q : Nat), true⟩), (6, some ⟨.cell, .slice 7 [] o 512 cap3, true⟩), (7, some ⟨.row .cell, .u8s B, false⟩), (9, some ⟨.cell, .i64 (512 * q : Nat), true⟩), (10, some ⟨.cell, .i64 (512 : Nat), true⟩)]
    |x :: _ => [(0, some ⟨tDv, .node [.i64 most, .slice 8 [] 0 (512 * q + 512) none, .slice 2 [] 0 N2 cap2, .slice 11 [] 0 (ls.length + 1 + 1) none, .i64 st, .bool false, .nilptr], true⟩), (8, some ⟨.row .cell, .u8s S', true⟩), (11, some ⟨.row tLo, b6 ((l0 :: ls) ++ [loF S' x.val]), true⟩), (4, some ⟨.cell, .ptr 0 [], true⟩), (5, some ⟨.cell, .i64 (512 * q : Nat), true⟩), (6, some ⟨.cell, .slice 7 [] o 512 cap3, true⟩), (7, some ⟨.row .cell, .u8s B, false⟩), (9, some ⟨.cell, .i64 (512 * q : Nat), true⟩), (10, some ⟨.cell, .i64 (512 : Nat), true⟩)],
   12, [0, 1, 2, 3, 4, 5, 6, 7, 8, 9, 10], rfl, hg, ⟨rfl, rfl, rfl, rfl, rfl, by decide, by decide⟩, ?_, ?_, ?_, ?_⟩
  ·intro p hp
   rcases List.mem_cons.1 hp with rfl | hp
   ·exact ⟨Nat.le_of_ble_eq_true rfl, rfl, fun pre => by cases pre <;> rfl⟩
   rcases List.mem_cons.1 hp with rfl | hp
   ·exact ⟨Nat.le_of_ble_eq_true rfl, rfl, fun pre => by cases pre <;> rfl⟩
   cases hp
  ·exact viewA
  ·intro pre x hlt
   have hx : 512 * x.val + 512 ≤ (512 * q + 512) := by have := x.isLt; omega
   have e1 := lQ S' (512 * q + 512) x.val hx
   have e2 := bD S' x.val (by omega)
   have e3 : ((512 * q + 512) - 512 * x.val).min (512 - 0) = 512 := Nat.min_eq_right (by omega)
   obtain rfl : pre = [] := by cases pre; rfl; simp at hlt
   refine gob ?_
   refine ⟨0, ?_⟩
   refine EffG.mk (And.intro ?_ ?_)
   ·(repeat' (first | exact trivial | refine And.intro ?_ ?_)) <;> first | omega | exact Nat.le_refl _ | rfl | exact (congrArg List.length e1).trans e2 | decide | exact (show (ls.length + 1 + 1) * 528 ≤ 140737488355328 by omega) | exact (show ls.length + 1 + 1 < 9223372036854775808 by omega) | exact hls1 | exact (show 0 + (ls.length + 1) ≤ ((l0 :: ls).map loD).length by rw [List.length_map, List.length_cons]; omega) | exact eB rfl hls2 e3 e1 e2
   refine gob ?_
   refine ⟨[0, 1, 2, 3, 4, 5, 6, 7, 8, 9, 10, 14], viewA (h3 := ?_)⟩
   (repeat' (first | exact trivial | refine And.intro ⟨_, rfl, rfl, ?_, id⟩ ?_ | refine And.intro ⟨_, rfl, rfl, ?_, fun _ => rfl⟩ ?_)) <;> first | rfl | exact (eA (l0 := l0) (ls := ls) rfl e3 e1).trans (Pure.ren (d := b6 ((l0 :: ls) ++ [loF S' x.val])) _).symm
  ·intro xs hxs
   obtain ⟨x, rfl, hy⟩ := zH hxs
   refine gob ?_
   refine aF [0, 1, 2, 3, 4, 5, 6, 7, 8, 11] (h3 := ?_)
   (repeat' (first | exact trivial | refine And.intro ⟨_, rfl, rfl, ?_, id⟩ ?_ | refine And.intro ⟨_, rfl, rfl, ?_, fun _ => rfl⟩ ?_)) <;> first | rfl | exact (Pure.ren _).symm | exact (congrArg (fun v => b6 ((l0 :: ls) ++ [loF S' v])) hy).trans (Pure.ren _).symm
set_option maxHeartbeats 2000000 in
theorem sQ (hq : N < 512 * q + 1024) (hB : o + 1024 ≤ B.length) (hN : N < 4611686018427387904) (hp : 512 * q + 1024 < 70368744177664) (hl : ls.length < 1000) :
  AC Tryz.prog 164 [.ptr 4 [], .ptr 5 [], .ptr 6 []] 8
   (fB 3 ls ++ [(0, some ⟨tDv, dvD most N cap N2 cap2 (oY 3 ls) st, true⟩), (1, some ⟨.row .cell, .u8s S, true⟩), (4, some ⟨.cell, .ptr 0 [], true⟩), (5, some ⟨.cell, .i64 (512 * q : Nat), true⟩), (6, some ⟨.cell, .slice 7 [] o 1024 cap3, true⟩), (7, some ⟨.row .cell, .u8s B, false⟩)])
   ⟨.tup [], (fB 3 ls).map (fun p => (p.1, none)) ++ [(0, some (.node [.i64 most, .slice 8 [] 0 (512 * q + 1024) none, .slice 2 [] 0 N2 cap2, .slice 9 [] 0 (ls.length + 2) none, .i64 st, .bool false, .nilptr])), (1, none)], [(.row .cell, .u8s (aY S ((B.drop o).take 1024) (512 * q))), (.row tLo, b6 (ls ++ [loF (aY S ((B.drop o).take 1024) (512 * q)) q] ++ [loF (aY S ((B.drop o).take 1024) (512 * q)) (q + 1)]))]⟩ := by
 have hBl : ((B.drop o).take 1024).length = 1024 := by rw [List.length_take, List.length_drop]; omega
 have hlay := aCU S B (512 * q) o 1024 N cap cap3 hS hq hB (by decide) hp
 have hsec := iM (512 * q) 1024 (by omega) (by decide)
 have hL : (aY S ((B.drop o).take 1024) (512 * q)).length = (512 * q + 1024) := by rw [cX, hBl]; omega
 generalize (aY S ((B.drop o).take 1024) (512 * q)) = S' at hlay hL ⊢
 refine acA tab mix Tryz.func164 {} ?_
 cases ls
 ·refine gob ?_
  refine aB hlay [1, 7] ?_
  refine aB hsec [] ?_
  have hg := bR 9 10 (512 * q) 1024 q 2 ((512 * q + 1024) / 512) (rw1 := true) (rw2 := true) (by omega) (by omega) (by rw [if_neg (by decide)]; omega) (by omega) (by omega) (by omega)
  refine RangeG.mk ⟨175, [.ptr 9 [], .ptr 10 []], [(9, ⟨.cell, .i64 (512 * q : Nat), true⟩), (10, ⟨.cell, .i64 (1024 : Nat), true⟩)], Fin ((512 * q + 1024) / 512), fun x => .i64 (512 * x.val : Nat), fun ys => ys.map (·.val) = List.range' q 2, 2, 19, 3, 2, _,
   fun pre => match pre with
    |[] => [(0, some ⟨tDv, .node [.i64 most, .slice 8 [] 0 (512 * q + 1024) none, .slice 2 [] 0 N2 cap2, .nilslice, .i64 st, .bool false, .nilptr], true⟩), (8, some ⟨.row .cell, .u8s S', true⟩), (4, some ⟨.cell, .ptr 0 [], true⟩), (5, some ⟨.cell, .i64 (512 * q : Nat), true⟩), (6, some ⟨.cell, .slice 7 [] o 1024 cap3, true⟩), (7, some ⟨.row .cell, .u8s B, false⟩), (9, some ⟨.cell, .i64 (512 * q : Nat), true⟩), (10, some ⟨.cell, .i64 (1024 : Nat), true⟩)]
    |[x] => [(0, some ⟨tDv, .node [.i64 most, .slice 8 [] 0 (512 * q + 1024) none, .slice 2 [] 0 N2 cap2, .slice 11 [] 0 (1) none, .i64 st, .bool false, .nilptr], true⟩), (8, some ⟨.row .cell, .u8s S', true⟩), (11, some ⟨.row tLo, b6 ([] ++ [loF S' x.val]), true⟩), (4, some ⟨.cell, .ptr 0 [], true⟩), (5, some ⟨.cell, .i64 (512 * q : Nat), true⟩), (6, some ⟨.cell, .slice 7 [] o 1024 cap3, true⟩), (7, some ⟨.row .cell, .u8s B, false⟩), (9, some ⟨.cell, .i64 (512 * q : Nat), true⟩), (10, some ⟨.cell, .i64 (1024 : Nat), true⟩)]
    |x :: y :: _ => [(0, some ⟨tDv, .node [.i64 most, .slice 8 [] 0 (512 * q + 1024) none, .slice 2 [] 0 N2 cap2, .slice 11 [] 0 (2) none, .i64 st, .bool false, .nilptr], true⟩), (8, some ⟨.row .cell, .u8s S', true⟩), (11, some ⟨.row tLo, b6 ([] ++ [loF S' x.val] ++ [loF S' y.val]), true⟩), (4, some ⟨.cell, .ptr 0 [], true⟩), (5, some ⟨.cell, .i64 (512 * q : Nat), true⟩), (6, some ⟨.cell, .slice 7 [] o 1024 cap3, true⟩), (7, some ⟨.row .cell, .u8s B, false⟩), (9, some ⟨.cell, .i64 (512 * q : Nat), true⟩), (10, some ⟨.cell, .i64 (1024 : Nat), true⟩)],
   12, [0, 1, 2, 3, 4, 5, 6, 7, 8, 9, 10], rfl, hg, ⟨rfl, rfl, rfl, rfl, rfl, by decide, by decide⟩, ?_, ?_, ?_, ?_⟩
  ·intro p hp
   rcases List.mem_cons.1 hp with rfl | hp
   ·exact ⟨Nat.le_of_ble_eq_true rfl, rfl, fun pre => by rcases pre with _ | ⟨a, _ | ⟨b, c⟩⟩ <;> rfl⟩
   rcases List.mem_cons.1 hp with rfl | hp
   ·exact ⟨Nat.le_of_ble_eq_true rfl, rfl, fun pre => by rcases pre with _ | ⟨a, _ | ⟨b, c⟩⟩ <;> rfl⟩
   cases hp
  ·exact viewA
  ·intro pre x hlt
   have hx : 512 * x.val + 512 ≤ (512 * q + 1024) := by have := x.isLt; omega
   have e1 := lQ S' (512 * q + 1024) x.val hx
   have e2 := bD S' x.val (by omega)
   have e3 : ((512 * q + 1024) - 512 * x.val).min (512 - 0) = 512 := Nat.min_eq_right (by omega)
   match pre, hlt with
   |[], _ =>
    refine gob ?_
    refine ⟨1, ?_⟩
    refine EffG.mk (And.intro ?_ ?_)
    ·(repeat' (first | exact trivial | refine And.intro ?_ ?_)) <;> first | omega | exact Nat.le_refl _ | rfl | exact (congrArg List.length e1).trans e2 | decide
    refine gob ?_
    refine ⟨[0, 1, 2, 3, 4, 5, 6, 7, 8, 9, 10, 14], viewA (h3 := ?_)⟩
    (repeat' (first | exact trivial | refine And.intro ⟨_, rfl, rfl, ?_, id⟩ ?_ | refine And.intro ⟨_, rfl, rfl, ?_, fun _ => rfl⟩ ?_)) <;> first | rfl | exact (congrArg (fun d => D.node [d]) (k9 e3 e1)).trans (Pure.ren (d := b6 [loF S' x.val]) _).symm
   |[w], _ =>
    have hw1 := bD S' w.val (by have := w.isLt; omega)
    refine gob ?_
    refine ⟨0, ?_⟩
    refine EffG.mk (And.intro ?_ ?_)
    ·(repeat' (first | exact trivial | refine And.intro ?_ ?_)) <;> first | omega | exact Nat.le_refl _ | rfl | exact (congrArg List.length e1).trans e2 | decide | exact (show (0 + 1 + 1) * 528 ≤ 140737488355328 by omega) | exact (show 0 + 1 + 1 < 9223372036854775808 by omega) | exact hw1 | exact (show 0 + (0 + 1) ≤ ((loF S' w.val :: ([] : List Lo)).map loD).length by rw [List.length_map, List.length_cons]; omega) | exact eB rfl (fun x hx => by simp at hx) e3 e1 e2
    refine gob ?_
    refine ⟨[0, 1, 2, 3, 4, 5, 6, 7, 8, 9, 10, 14], viewA (h3 := ?_)⟩
    (repeat' (first | exact trivial | refine And.intro ⟨_, rfl, rfl, ?_, id⟩ ?_ | refine And.intro ⟨_, rfl, rfl, ?_, fun _ => rfl⟩ ?_)) <;> first | rfl | exact (eA (l0 := loF S' w.val) (ls := ([] : List Lo)) rfl e3 e1).trans (Pure.ren (d := b6 ((loF S' w.val :: ([] : List Lo)) ++ [loF S' x.val])) _).symm
  ·intro xs hxs
   obtain ⟨x, y, rfl, hz, hy⟩ := yF hxs
   refine gob ?_
   refine aF [0, 1, 2, 3, 4, 5, 6, 7, 8, 11] (h3 := ?_)
   (repeat' (first | exact trivial | refine And.intro ⟨_, rfl, rfl, ?_, id⟩ ?_ | refine And.intro ⟨_, rfl, rfl, ?_, fun _ => rfl⟩ ?_)) <;> first | rfl | exact (Pure.ren _).symm | exact ((congrArg (fun u => b6 ([] ++ [loF S' u] ++ [loF S' y.val])) hz).trans (congrArg (fun v => b6 ([] ++ [loF S' q] ++ [loF S' v])) hy)).trans (Pure.ren _).symm
 ·rename_i l0 ls
  have hl2 : ls.length + 1 < 1000 := hl
  have hls1 := hls l0 (by simp)
  have hls2 : ∀ x ∈ ls, x.bytes.length = 512 := fun x hx => hls x (by simp [hx])
  refine gob ?_
  refine aB hlay [1, 7] ?_
  refine aB hsec [] ?_
  have hg := bR 9 10 (512 * q) 1024 q 2 ((512 * q + 1024) / 512) (rw1 := true) (rw2 := true) (by omega) (by omega) (by rw [if_neg (by decide)]; omega) (by omega) (by omega) (by omega)
  refine RangeG.mk ⟨175, [.ptr 9 [], .ptr 10 []], [(9, ⟨.cell, .i64 (512 * q : Nat), true⟩), (10, ⟨.cell, .i64 (1024 : Nat), true⟩)], Fin ((512 * q + 1024) / 512), fun x => .i64 (512 * x.val : Nat), fun ys => ys.map (·.val) = List.range' q 2, 2, 19, 3, 2, _,
   fun pre => match pre with
    |[] => [(0, some ⟨tDv, .node [.i64 most, .slice 8 [] 0 (512 * q + 1024) none, .slice 2 [] 0 N2 cap2, .slice 3 [] 0 (ls.length + 1) none, .i64 st, .bool false, .nilptr], true⟩), (8, some ⟨.row .cell, .u8s S', true⟩), (3, some ⟨.row tLo, b6 (l0 :: ls), true⟩), (4, some ⟨.cell, .ptr 0 [], true⟩), (5, some ⟨.cell, .i64 (512 * q : Nat), true⟩), (6, some ⟨.cell, .slice 7 [] o 1024 cap3, true⟩), (7, some ⟨.row .cell, .u8s B, false⟩), (9, some ⟨.cell, .i64 (512 * q : Nat), true⟩), (10, some ⟨.cell, .i64 (1024 : Nat), true⟩)]
    |[x] => [(0, some ⟨tDv, .node [.i64 most, .slice 8 [] 0 (512 * q + 1024) none, .slice 2 [] 0 N2 cap2, .slice 11 [] 0 (ls.length + 1 + 1) none, .i64 st, .bool false, .nilptr], true⟩), (8, some ⟨.row .cell, .u8s S', true⟩), (11, some ⟨.row tLo, b6 ((l0 :: ls) ++ [loF S' x.val]), true⟩), (4, some ⟨.cell, .ptr 0 [], true⟩), (5, some ⟨.cell, .i64 (512 * q : Nat), true⟩), (6, some ⟨.cell, .slice 7 [] o 1024 cap3, true⟩), (7, some ⟨.row .cell, .u8s B, false⟩), (9, some ⟨.cell, .i64 (512 * q : Nat), true⟩), (10, some ⟨.cell, .i64 (1024 : Nat), true⟩)]
    |x :: y :: _ => [(0, some ⟨tDv, .node [.i64 most, .slice 8 [] 0 (512 * q + 1024) none, .slice 2 [] 0 N2 cap2, .slice 11 [] 0 (ls.length + 1 + 1 + 1) none, .i64 st, .bool false, .nilptr], true⟩), (8, some ⟨.row .cell, .u8s S', true⟩), (11, some ⟨.row tLo, b6 ((l0 :: ls) ++ [loF S' x.val] ++ [loF S' y.val]), true⟩), (4, some ⟨.cell, .ptr 0 [], true⟩), (5, some ⟨.cell, .i64 (512 * q : Nat), true⟩), (6, some ⟨.cell, .slice 7 [] o 1024 cap3, true⟩), (7, some ⟨.row .cell, .u8s B, false⟩), (9, some ⟨.cell, .i64 (512 * q : Nat), true⟩), (10, some ⟨.cell, .i64 (1024 : Nat), true⟩)],
   12, [0, 1, 2, 3, 4, 5, 6, 7, 8, 9, 10], rfl, hg, ⟨rfl, rfl, rfl, rfl, rfl, by decide, by decide⟩, ?_, ?_, ?_, ?_⟩
  ·intro p hp
   rcases List.mem_cons.1 hp with rfl | hp
   ·exact ⟨Nat.le_of_ble_eq_true rfl, rfl, fun pre => by rcases pre with _ | ⟨a, _ | ⟨b, c⟩⟩ <;> rfl⟩
   rcases List.mem_cons.1 hp with rfl | hp
   ·exact ⟨Nat.le_of_ble_eq_true rfl, rfl, fun pre => by rcases pre with _ | ⟨a, _ | ⟨b, c⟩⟩ <;> rfl⟩
   cases hp
  ·exact viewA
  ·intro pre x hlt
   have hx : 512 * x.val + 512 ≤ (512 * q + 1024) := by have := x.isLt; omega
   have e1 := lQ S' (512 * q + 1024) x.val hx
   have e2 := bD S' x.val (by omega)
   have e3 : ((512 * q + 1024) - 512 * x.val).min (512 - 0) = 512 := Nat.min_eq_right (by omega)
   match pre, hlt with
   |[], _ =>
    refine gob ?_
    refine ⟨0, ?_⟩
    refine EffG.mk (And.intro ?_ ?_)
    ·(repeat' (first | exact trivial | refine And.intro ?_ ?_)) <;> first | omega | exact Nat.le_refl _ | rfl | exact (congrArg List.length e1).trans e2 | decide | exact (show (ls.length + 1 + 1) * 528 ≤ 140737488355328 by omega) | exact (show ls.length + 1 + 1 < 9223372036854775808 by omega) | exact hls1 | exact (show 0 + (ls.length + 1) ≤ ((l0 :: ls).map loD).length by rw [List.length_map, List.length_cons]; omega) | exact eB rfl hls2 e3 e1 e2
    refine gob ?_
    refine ⟨[0, 1, 2, 3, 4, 5, 6, 7, 8, 9, 10, 14], viewA (h3 := ?_)⟩
    (repeat' (first | exact trivial | refine And.intro ⟨_, rfl, rfl, ?_, id⟩ ?_ | refine And.intro ⟨_, rfl, rfl, ?_, fun _ => rfl⟩ ?_)) <;> first | rfl | exact (eA (l0 := l0) (ls := ls) rfl e3 e1).trans (Pure.ren (d := b6 ((l0 :: ls) ++ [loF S' x.val])) _).symm
   |[w], _ =>
    have hw2 : ∀ x ∈ ls ++ [loF S' w.val], x.bytes.length = 512 := fun x hx => by
     rcases List.mem_append.1 hx with h | h
     ·exact hls2 x h
     ·rw [List.mem_singleton.1 h]; exact bD S' w.val (by have := w.isLt; omega)
    have hwn : (ls ++ [loF S' w.val]).length = ls.length + 1 := by rw [List.length_append]; rfl
    refine gob ?_
    refine ⟨0, ?_⟩
    refine EffG.mk (And.intro ?_ ?_)
    ·(repeat' (first | exact trivial | refine And.intro ?_ ?_)) <;> first | omega | exact Nat.le_refl _ | rfl | exact (congrArg List.length e1).trans e2 | decide | exact (show ((ls.length + 1) + 1 + 1) * 528 ≤ 140737488355328 by omega) | exact (show (ls.length + 1) + 1 + 1 < 9223372036854775808 by omega) | exact hls1 | exact (show 0 + ((ls.length + 1) + 1) ≤ ((l0 :: (ls ++ [loF S' w.val])).map loD).length by rw [List.length_map, List.length_cons, hwn]; omega) | exact eB hwn hw2 e3 e1 e2
    refine gob ?_
    refine ⟨[0, 1, 2, 3, 4, 5, 6, 7, 8, 9, 10, 14], viewA (h3 := ?_)⟩
    (repeat' (first | exact trivial | refine And.intro ⟨_, rfl, rfl, ?_, id⟩ ?_ | refine And.intro ⟨_, rfl, rfl, ?_, fun _ => rfl⟩ ?_)) <;> first | rfl | exact (eA (l0 := l0) (ls := (ls ++ [loF S' w.val])) hwn e3 e1).trans (Pure.ren (d := b6 ((l0 :: (ls ++ [loF S' w.val])) ++ [loF S' x.val])) _).symm
  ·intro xs hxs
   obtain ⟨x, y, rfl, hz, hy⟩ := yF hxs
   refine gob ?_
   refine aF [0, 1, 2, 3, 4, 5, 6, 7, 8, 11] (h3 := ?_)
   (repeat' (first | exact trivial | refine And.intro ⟨_, rfl, rfl, ?_, id⟩ ?_ | refine And.intro ⟨_, rfl, rfl, ?_, fun _ => rfl⟩ ?_)) <;> first | rfl | exact (Pure.ren _).symm | exact ((congrArg (fun u => b6 ((l0 :: ls) ++ [loF S' u] ++ [loF S' y.val])) hz).trans (congrArg (fun v => b6 ((l0 :: ls) ++ [loF S' q] ++ [loF S' v])) hy)).trans (Pure.ren _).symm
end
section
variable (most N : Nat) (cap : Option Nat) (N2 : Nat) (cap2 : Option Nat) (ls : List Lo) (hls : ∀ x ∈ ls, x.bytes.length = 512) (st q o : Nat) (cap3 : Option Nat) (S B : B8) (hS : S.length = N)
include most N cap N2 cap2 ls hls st q o cap3 S B hS
section
variable (hq : 512 * q + 512 ≤ N) (hB : o + 512 ≤ B.length)
include hq hB
theorem aAS (hN : N < 4611686018427387904) (hp : 512 * q + 512 < 70368744177664) (hl : ls.length < 1000) (hst : st < 1000) :
  AC Tryz.prog 163 [.ptr 0 [], .fn 164 [] [.ptr 4 [], .ptr 5 [], .ptr 6 []]] 8
   (fB 3 ls ++ [(0, some ⟨tDv, dvD most N cap N2 cap2 (oY 3 ls) st, true⟩), (1, some ⟨.row .cell, .u8s S, true⟩), (4, some ⟨.cell, .ptr 0 [], true⟩), (5, some ⟨.cell, .i64 (512 * q : Nat), true⟩), (6, some ⟨.cell, .slice 7 [] o 512 cap3, true⟩), (7, some ⟨.row .cell, .u8s B, false⟩)])
   ⟨.i64 0, (fB 3 ls).map (fun p => (p.1, none)) ++ [(0, some (dvD most N cap N2 cap2 (.slice 8 [] 0 (ls.length + 1) none) (st + 1))), (1, some (.u8s (aY S ((B.drop o).take 512) (512 * q))))], [(.row tLo, b6 (ls ++ [loF (aY S ((B.drop o).take 512) (512 * q)) q]))]⟩ := by
 have hw := sU most N cap N2 cap2 ls hls (st + 1) q o cap3 S B hS hq hB hN hp hl
 generalize aY S ((B.drop o).take 512) (512 * q) = S' at hw ⊢
 refine acA tab mix Tryz.func163 {} ?_
 cases ls
 all_goals
  refine gob ?_
  refine aB hw [0, 1, 2, 3, 4, 5, 6, 7] ?_
  refine aF [0, 1, 2, 3, 4, 5, 6, 7, 8]
theorem u9 (hN : N ≤ most) (hm : most ≤ 16777216) (hl : ls.length < 1000) (hst : st < 1000) :
  AC Tryz.prog 139 [.ptr 0 [], .i64 (512 * q : Nat), .slice 4 [] o 512 cap3] 5
   (fB 3 ls ++ [(0, some ⟨tDv, dvD most N cap N2 cap2 (oY 3 ls) st, true⟩), (1, some ⟨.row .cell, .u8s S, true⟩), (4, some ⟨.row .cell, .u8s B, false⟩)])
   ⟨.i64 0, (fB 3 ls).map (fun p => (p.1, none)) ++ [(0, some (dvD most N cap N2 cap2 (.slice 5 [] 0 (ls.length + 1) none) (st + 1))), (1, some (.u8s (aY S ((B.drop o).take 512) (512 * q))))], [(.row tLo, b6 (ls ++ [loF (aY S ((B.drop o).take 512) (512 * q)) q]))]⟩ := by
 have hw := aAS most N cap N2 cap2 ls hls st q o cap3 S B hS hq hB (by omega) (by omega) hl hst
 have hu := aAK most N cap N2 cap2 ls st
 generalize aY S ((B.drop o).take 512) (512 * q) = S' at hw ⊢
 refine acA tab mix Tryz.func139 {} ?_
 cases ls
 all_goals
  refine gob ?_
  refine aB hu [0, 1, 2, 3] ?_
  refine aB hw [0, 1, 2, 3, 5, 6, 7, 4] ?_
  refine aF [0, 1, 2, 3, 4, 8]
end
section
variable (hq : 512 * q + 1024 ≤ N) (hB : o + 1024 ≤ B.length)
include hq hB
theorem aAR (hN : N < 4611686018427387904) (hp : 512 * q + 1024 < 70368744177664) (hl : ls.length < 1000) (hst : st < 1000) :
  AC Tryz.prog 163 [.ptr 0 [], .fn 164 [] [.ptr 4 [], .ptr 5 [], .ptr 6 []]] 8
   (fB 3 ls ++ [(0, some ⟨tDv, dvD most N cap N2 cap2 (oY 3 ls) st, true⟩), (1, some ⟨.row .cell, .u8s S, true⟩), (4, some ⟨.cell, .ptr 0 [], true⟩), (5, some ⟨.cell, .i64 (512 * q : Nat), true⟩), (6, some ⟨.cell, .slice 7 [] o 1024 cap3, true⟩), (7, some ⟨.row .cell, .u8s B, false⟩)])
   ⟨.i64 0, (fB 3 ls).map (fun p => (p.1, none)) ++ [(0, some (dvD most N cap N2 cap2 (.slice 8 [] 0 (ls.length + 2) none) (st + 1))), (1, some (.u8s (aY S ((B.drop o).take 1024) (512 * q))))], [(.row tLo, b6 (ls ++ [loF (aY S ((B.drop o).take 1024) (512 * q)) q] ++ [loF (aY S ((B.drop o).take 1024) (512 * q)) (q + 1)]))]⟩ := by
 have hw := sS most N cap N2 cap2 ls hls (st + 1) q o cap3 S B hS hq hB hN hp hl
 generalize aY S ((B.drop o).take 1024) (512 * q) = S' at hw ⊢
 refine acA tab mix Tryz.func163 {} ?_
 cases ls
 all_goals
  refine gob ?_
  refine aB hw [0, 1, 2, 3, 4, 5, 6, 7] ?_
  refine aF [0, 1, 2, 3, 4, 5, 6, 7, 8]
theorem u7 (hN : N ≤ most) (hm : most ≤ 16777216) (hl : ls.length < 1000) (hst : st < 1000) :
  AC Tryz.prog 139 [.ptr 0 [], .i64 (512 * q : Nat), .slice 4 [] o 1024 cap3] 5
   (fB 3 ls ++ [(0, some ⟨tDv, dvD most N cap N2 cap2 (oY 3 ls) st, true⟩), (1, some ⟨.row .cell, .u8s S, true⟩), (4, some ⟨.row .cell, .u8s B, false⟩)])
   ⟨.i64 0, (fB 3 ls).map (fun p => (p.1, none)) ++ [(0, some (dvD most N cap N2 cap2 (.slice 5 [] 0 (ls.length + 2) none) (st + 1))), (1, some (.u8s (aY S ((B.drop o).take 1024) (512 * q))))], [(.row tLo, b6 (ls ++ [loF (aY S ((B.drop o).take 1024) (512 * q)) q] ++ [loF (aY S ((B.drop o).take 1024) (512 * q)) (q + 1)]))]⟩ := by
 have hw := aAR most N cap N2 cap2 ls hls st q o cap3 S B hS hq hB (by omega) (by omega) hl hst
 have hu := aAK most N cap N2 cap2 ls st
 generalize aY S ((B.drop o).take 1024) (512 * q) = S' at hw ⊢
 refine acA tab mix Tryz.func139 {} ?_
 cases ls
 all_goals
  refine gob ?_
  refine aB hu [0, 1, 2, 3] ?_
  refine aB hw [0, 1, 2, 3, 5, 6, 7, 4] ?_
  refine aF [0, 1, 2, 3, 4, 8]
end
section
variable (hq : N < 512 * q + 512) (hB : o + 512 ≤ B.length)
include hq hB
theorem aAQ (hN : N < 4611686018427387904) (hp : 512 * q + 512 < 70368744177664) (hl : ls.length < 1000) (hst : st < 1000) :
  AC Tryz.prog 163 [.ptr 0 [], .fn 164 [] [.ptr 4 [], .ptr 5 [], .ptr 6 []]] 8
   (fB 3 ls ++ [(0, some ⟨tDv, dvD most N cap N2 cap2 (oY 3 ls) st, true⟩), (1, some ⟨.row .cell, .u8s S, true⟩), (4, some ⟨.cell, .ptr 0 [], true⟩), (5, some ⟨.cell, .i64 (512 * q : Nat), true⟩), (6, some ⟨.cell, .slice 7 [] o 512 cap3, true⟩), (7, some ⟨.row .cell, .u8s B, false⟩)])
   ⟨.i64 0, (fB 3 ls).map (fun p => (p.1, none)) ++ [(0, some (.node [.i64 most, .slice 8 [] 0 (512 * q + 512) none, .slice 2 [] 0 N2 cap2, .slice 9 [] 0 (ls.length + 1) none, .i64 (st + 1), .bool false, .nilptr])), (1, none)], [(.row .cell, .u8s (aY S ((B.drop o).take 512) (512 * q))), (.row tLo, b6 (ls ++ [loF (aY S ((B.drop o).take 512) (512 * q)) q]))]⟩ := by
 have hw := sR most N cap N2 cap2 ls hls (st + 1) q o cap3 S B hS hq hB hN hp hl
 generalize aY S ((B.drop o).take 512) (512 * q) = S' at hw ⊢
 refine acA tab mix Tryz.func163 {} ?_
 cases ls
 all_goals
  refine gob ?_
  refine aB hw [0, 1, 2, 3, 4, 5, 6, 7] ?_
  refine aF [0, 1, 2, 3, 4, 5, 6, 7, 8, 9]
theorem u6 (hN : N ≤ most) (hm : most ≤ 16777216) (hp : 512 * q ≤ N) (hf : 512 * q + 512 ≤ most) (hl : ls.length < 1000) (hst : st < 1000) :
  AC Tryz.prog 139 [.ptr 0 [], .i64 (512 * q : Nat), .slice 4 [] o 512 cap3] 5
   (fB 3 ls ++ [(0, some ⟨tDv, dvD most N cap N2 cap2 (oY 3 ls) st, true⟩), (1, some ⟨.row .cell, .u8s S, true⟩), (4, some ⟨.row .cell, .u8s B, false⟩)])
   ⟨.i64 0, (fB 3 ls).map (fun p => (p.1, none)) ++ [(0, some (.node [.i64 most, .slice 5 [] 0 (512 * q + 512) none, .slice 2 [] 0 N2 cap2, .slice 6 [] 0 (ls.length + 1) none, .i64 (st + 1), .bool false, .nilptr])), (1, none)], [(.row .cell, .u8s (aY S ((B.drop o).take 512) (512 * q))), (.row tLo, b6 (ls ++ [loF (aY S ((B.drop o).take 512) (512 * q)) q]))]⟩ := by
 have hw := aAQ most N cap N2 cap2 ls hls st q o cap3 S B hS hq hB (by omega) (by omega) hl hst
 have hu := aAK most N cap N2 cap2 ls st
 generalize aY S ((B.drop o).take 512) (512 * q) = S' at hw ⊢
 refine acA tab mix Tryz.func139 {} ?_
 cases ls
 all_goals
  refine gob ?_
  refine aB hu [0, 1, 2, 3] ?_
  refine aB hw [0, 1, 2, 3, 5, 6, 7, 4] ?_
  refine aF [0, 1, 2, 3, 4, 8, 9]
end
section
variable (hq : N < 512 * q + 1024) (hB : o + 1024 ≤ B.length)
include hq hB
theorem aAP (hN : N < 4611686018427387904) (hp : 512 * q + 1024 < 70368744177664) (hl : ls.length < 1000) (hst : st < 1000) :
  AC Tryz.prog 163 [.ptr 0 [], .fn 164 [] [.ptr 4 [], .ptr 5 [], .ptr 6 []]] 8
   (fB 3 ls ++ [(0, some ⟨tDv, dvD most N cap N2 cap2 (oY 3 ls) st, true⟩), (1, some ⟨.row .cell, .u8s S, true⟩), (4, some ⟨.cell, .ptr 0 [], true⟩), (5, some ⟨.cell, .i64 (512 * q : Nat), true⟩), (6, some ⟨.cell, .slice 7 [] o 1024 cap3, true⟩), (7, some ⟨.row .cell, .u8s B, false⟩)])
   ⟨.i64 0, (fB 3 ls).map (fun p => (p.1, none)) ++ [(0, some (.node [.i64 most, .slice 8 [] 0 (512 * q + 1024) none, .slice 2 [] 0 N2 cap2, .slice 9 [] 0 (ls.length + 2) none, .i64 (st + 1), .bool false, .nilptr])), (1, none)], [(.row .cell, .u8s (aY S ((B.drop o).take 1024) (512 * q))), (.row tLo, b6 (ls ++ [loF (aY S ((B.drop o).take 1024) (512 * q)) q] ++ [loF (aY S ((B.drop o).take 1024) (512 * q)) (q + 1)]))]⟩ := by
 have hw := sQ most N cap N2 cap2 ls hls (st + 1) q o cap3 S B hS hq hB hN hp hl
 generalize aY S ((B.drop o).take 1024) (512 * q) = S' at hw ⊢
 refine acA tab mix Tryz.func163 {} ?_
 cases ls
 all_goals
  refine gob ?_
  refine aB hw [0, 1, 2, 3, 4, 5, 6, 7] ?_
  refine aF [0, 1, 2, 3, 4, 5, 6, 7, 8, 9]
theorem u5 (hN : N ≤ most) (hm : most ≤ 16777216) (hp : 512 * q ≤ N) (hf : 512 * q + 1024 ≤ most) (hl : ls.length < 1000) (hst : st < 1000) :
  AC Tryz.prog 139 [.ptr 0 [], .i64 (512 * q : Nat), .slice 4 [] o 1024 cap3] 5
   (fB 3 ls ++ [(0, some ⟨tDv, dvD most N cap N2 cap2 (oY 3 ls) st, true⟩), (1, some ⟨.row .cell, .u8s S, true⟩), (4, some ⟨.row .cell, .u8s B, false⟩)])
   ⟨.i64 0, (fB 3 ls).map (fun p => (p.1, none)) ++ [(0, some (.node [.i64 most, .slice 5 [] 0 (512 * q + 1024) none, .slice 2 [] 0 N2 cap2, .slice 6 [] 0 (ls.length + 2) none, .i64 (st + 1), .bool false, .nilptr])), (1, none)], [(.row .cell, .u8s (aY S ((B.drop o).take 1024) (512 * q))), (.row tLo, b6 (ls ++ [loF (aY S ((B.drop o).take 1024) (512 * q)) q] ++ [loF (aY S ((B.drop o).take 1024) (512 * q)) (q + 1)]))]⟩ := by
 have hw := aAP most N cap N2 cap2 ls hls st q o cap3 S B hS hq hB (by omega) (by omega) hl hst
 have hu := aAK most N cap N2 cap2 ls st
 generalize aY S ((B.drop o).take 1024) (512 * q) = S' at hw ⊢
 refine acA tab mix Tryz.func139 {} ?_
 cases ls
 all_goals
  refine gob ?_
  refine aB hu [0, 1, 2, 3] ?_
  refine aB hw [0, 1, 2, 3, 5, 6, 7, 4] ?_
  refine aF [0, 1, 2, 3, 4, 8, 9]
end
end
abbrev rdM (bs : B8) (o len : Nat) (cap : Option Nat) : Mem := [(0, some ⟨.row .cell, .u8s bs, false⟩), (1, some ⟨tRd, .node [.slice 0 [] o len cap, .i64 0], true⟩)]
abbrev rdN (o len n : Nat) (cap : Option Nat) : List (Nat × Option D) := [(1, some (.node [.slice 0 [] (o + n) (len - n) (cap.map (· - n)), .i64 0]))]
theorem yS (bs : B8) (o n len : Nat) (cap : Option Nat) (h : n ≤ len) :
  AC Tryz.prog 141 [.ptr 1 [], .i64 n] 2 (rdM bs o len cap) ⟨.slice 0 [] o n (some n), rdN o len n cap, []⟩ := by
 refine acA tab mix Tryz.func141 {} ?_
 refine gob ?_
 refine aF [0, 1]
theorem aD6 (bs : B8) (o len : Nat) (cap : Option Nat) :
  AC Tryz.prog 104 [.slice 0 [] o len cap] 1 [(0, some ⟨.row .cell, .u8s bs, false⟩)] ⟨.ptr 1 [], [], [(tRd, .node [.slice 0 [] o len cap, .i64 0])]⟩ := by
 refine acA tab mix Tryz.func104 {} ?_
 refine gob ?_
 refine aF [0, 1]
theorem gP (bs : B8) (o n len : Nat) (cap : Option Nat) (h : n ≤ len) (hb : o + len ≤ bs.length) (hk : n ≤ 70368744177664) :
  AC Tryz.prog 106 [.ptr 1 [], .i64 n] 2 (rdM bs o len cap) ⟨.slice 2 [] 0 n none, rdN o len n cap, [(.row .cell, .u8s ((bs.drop o).take n))]⟩ := by
 have hn := yS bs o n len cap h
 have hc := mX bs o n (some n) (by omega) hk
 refine acA tab mix Tryz.func106 {} ?_
 refine gob ?_
 refine aB hn [0, 1] ?_
 refine aB hc [0] ?_
 refine aF [0, 1, 2]
end Go.Proofs.YtllcgppffncafaaGreatDoor.Av
