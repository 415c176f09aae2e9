import Derived.Test.YtodkhgofmgaafaaGreatDoorM6
import Derived.Test.YtodkhgofmgaafaaGreatDoorM5
namespace Go.Proofs.YtodkhgofmgaafaaGreatDoor.Av
open Go
set_option linter.all false
set_option maxRecDepth 3000
def cY (S : B8) (q p : Nat) : B8 := (S.drop (512 * q)).take (512 * p)
def pR (Q : B8) (p : Nat) : D × Int := bif aGw Q || !eH Q 288 (512 * p - 288) then (iO, 40) else (aGK Q, 0)
section
variable (c p : Nat) (hp1 : 1 ≤ p) (hp2 : p ≤ 2) (f : Nat) (F : B8 → B8) (hF : ∀ b, (F b).length = 32) (hf : ∀ (bs : B8), bs.length = 512 * p → AC Tryz.prog f [.slice 0 [] 0 (512 * p) none] 1 [(0, some ⟨.row .cell, .u8s bs, false⟩), gR] ⟨.u8s (F bs), [], []⟩) (tag : B8) (k1 k2 : List B8) (most N : Nat) (cap : Option Nat) (N2 : Nat) (cap2 : Option Nat) (ls : List Lo) (st : Nat) (S : B8) (a : BitVec 32) (r : B8) (q : Nat) (hqn : q = 8 + (a - 1).toNat * p) (hc : 1 ≤ c) (hc2 : c ≤ 64) (ht : tag.length = 32) (hr : r.length = 32) (hS : S.length = N) (ha0 : 1 ≤ a.toNat) (ha : a.toNat ≤ 65536) (hN : N < 70368744177664)
include c p hp1 hp2 f F hF hf tag k1 k2 most N cap N2 cap2 ls st S a r q hqn hc hc2 ht hr hS ha0 ha hN
theorem wH (hq : 512 * q + 512 * p ≤ N) (he : F (cY S q p) = r) :
  AC Tryz.prog 41 [.ptr 4 [], aB a r, .fn f [] []] 8 (fJ c p tag k1 k2 most N cap N2 cap2 ls st S)
   ⟨.tup [.slice 8 [] 0 (512 * p) none, .i64 0], [], [(.row .cell, .u8s (cY S q p))]⟩ := by
 have hs1 := b8 ha0
 have hsz := bS 0 0 c p tag (by decide) (by decide) hp2
 have hpl := bT c p (a - 1) q hqn hc hc2 hp1 hp2 (by omega)
 have hql : q ≤ 200000 := by have := Nat.mul_le_mul (show (a - 1).toNat ≤ 65535 by omega) hp2; omega
 clear hqn
 have hrd := lD most N cap N2 cap2 ls st (512 * q) (512 * p) S hS hq hN
 rw [show (S.drop (512 * q)).take (512 * p) = cY S q p from rfl] at hrd
 have hQl : (cY S q p).length = 512 * p := by rw [cY, List.length_take, List.length_drop]; omega
 generalize cY S q p = Q at hrd hQl he ⊢
 have hsum := hf Q hQl
 have heq := lC (F Q) r 32 (some 32) (some 32) (hF Q) hr (by decide)
 rw [decide_eq_true he] at heq
 have hFl := hF Q
 generalize F Q = sum at hsum hFl heq he
 have q0 : decide (a = BitVec.ofNat 32 (Int.toNat 0)) = false := decide_eq_false (fun e => by rw [e] at ha0; exact absurd ha0 (by decide))
 refine acA tab mix Tryz.func41 {} ?_
 cases ls
 all_goals
  refine gob ?_
  rw [q0]
  refine gob ?_
  refine brN ?_ (decide_eq_false (show ¬ 65536 < a.toNat by omega))
  refine gob ?_
  refine aA hpl [] ?_
  refine aA hsz [4, 0, 5] ?_
  refine aA hrd [0, 1, 2, 3] ?_
  refine aA hsum [9] ?_
  refine aA ((heq.arr 0 32).arrAt 1 32 [.fld 1] gU (aB a r)) [10, 8] ?_
  refine aI [0, 1, 2, 3, 4, 5, 6, 7, 9]
theorem wG (hq : 512 * q + 512 * p ≤ N) (he : ¬ F (cY S q p) = r) :
  AC Tryz.prog 41 [.ptr 4 [], aB a r, .fn f [] []] 8 (fJ c p tag k1 k2 most N cap N2 cap2 ls st S)
   ⟨.tup [.nilslice, .i64 40], [], []⟩ := by
 have hs1 := b8 ha0
 have hsz := bS 0 0 c p tag (by decide) (by decide) hp2
 have hpl := bT c p (a - 1) q hqn hc hc2 hp1 hp2 (by omega)
 have hql : q ≤ 200000 := by have := Nat.mul_le_mul (show (a - 1).toNat ≤ 65535 by omega) hp2; omega
 clear hqn
 have hrd := lD most N cap N2 cap2 ls st (512 * q) (512 * p) S hS hq hN
 rw [show (S.drop (512 * q)).take (512 * p) = cY S q p from rfl] at hrd
 have hQl : (cY S q p).length = 512 * p := by rw [cY, List.length_take, List.length_drop]; omega
 generalize cY S q p = Q at hrd hQl he
 have hsum := hf Q hQl
 have heq := lC (F Q) r 32 (some 32) (some 32) (hF Q) hr (by decide)
 rw [decide_eq_false he] at heq
 have hFl := hF Q
 generalize F Q = sum at hsum hFl heq he
 have q0 : decide (a = BitVec.ofNat 32 (Int.toNat 0)) = false := decide_eq_false (fun e => by rw [e] at ha0; exact absurd ha0 (by decide))
 refine acA tab mix Tryz.func41 {} ?_
 cases ls
 all_goals
  refine gob ?_
  rw [q0]
  refine gob ?_
  refine brN ?_ (decide_eq_false (show ¬ 65536 < a.toNat by omega))
  refine gob ?_
  refine aA hpl [] ?_
  refine aA hsz [4, 0, 5] ?_
  refine aA hrd [0, 1, 2, 3] ?_
  refine aA hsum [9] ?_
  refine aA ((heq.arr 0 32).arrAt 1 32 [.fld 1] gU (aB a r)) [10, 8] ?_
  refine aI [0, 1, 2, 3, 4, 5, 6, 7]
theorem wF (hq : N < 512 * q + 512 * p) :
  AC Tryz.prog 41 [.ptr 4 [], aB a r, .fn f [] []] 8 (fJ c p tag k1 k2 most N cap N2 cap2 ls st S)
   ⟨.tup [.nilslice, .i64 40], [], []⟩ := by
 have hs1 := b8 ha0
 have hsz := bS 0 0 c p tag (by decide) (by decide) hp2
 have hpl := bT c p (a - 1) q hqn hc hc2 hp1 hp2 (by omega)
 have hql : q ≤ 200000 := by have := Nat.mul_le_mul (show (a - 1).toNat ≤ 65535 by omega) hp2; omega
 clear hqn
 have hrd := aBC most N cap N2 cap2 ls st (512 * q) (512 * p) hq hN (by omega) (by omega)
 have htd := jP
 have q0 : decide (a = BitVec.ofNat 32 (Int.toNat 0)) = false := decide_eq_false (fun e => by rw [e] at ha0; exact absurd ha0 (by decide))
 refine acA tab mix Tryz.func41 {} ?_
 cases ls
 all_goals
  refine gob ?_
  rw [q0]
  refine gob ?_
  refine brN ?_ (decide_eq_false (show ¬ 65536 < a.toNat by omega))
  refine gob ?_
  refine aA hpl [] ?_
  refine aA hsz [4, 0, 5] ?_
  refine aA hrd [0, 1, 2, 3] ?_
  refine aA htd [] ?_
  refine aI [0, 1, 2, 3, 4, 5, 6, 7]
end
theorem wJ (f : Nat) (a : BitVec 32) (r : B8) (hr : r.length = 32) (h : a.toNat = 0 ∨ 65536 < a.toNat) :
  AC Tryz.prog 41 [.ptr 0 [], aB a r, .fn f [] []] 1 [] ⟨.tup [.nilslice, .i64 2], [], []⟩ := by
 by_cases h0 : a.toNat = 0
 ·have q0 : decide (a = BitVec.ofNat 32 (Int.toNat 0)) = true := decide_eq_true (BitVec.eq_of_toNat_eq h0)
  refine acA tab mix Tryz.func41 {} ?_
  refine gob ?_
  rw [q0]
  refine gob ?_
  refine aI [0]
 ·have q0 : decide (a = BitVec.ofNat 32 (Int.toNat 0)) = false := decide_eq_false (fun e => h0 (by rw [e]; rfl))
  refine acA tab mix Tryz.func41 {} ?_
  refine gob ?_
  rw [q0]
  refine gob ?_
  refine brY ?_ (h := decide_eq_true (show 65536 < a.toNat by omega))
  refine gob ?_
  refine aI [0]
section
variable (c p : Nat) (hp1 : 1 ≤ p) (hp2 : p ≤ 2) (m : BitVec 32) (tag : B8) (k1 k2 : List B8) (most N : Nat) (cap : Option Nat) (N2 : Nat) (cap2 : Option Nat) (ls : List Lo) (st : Nat) (S : B8) (a : BitVec 32) (r : B8) (q : Nat) (hqn : q = 8 + (a - 1).toNat * p) (hc : 1 ≤ c) (hc2 : c ≤ 64) (ht : tag.length = 32) (hr : r.length = 32) (hS : S.length = N) (ha0 : 1 ≤ a.toNat) (ha : a.toNat ≤ 65536) (hN : N < 70368744177664)
include c p hp1 hp2 m tag k1 k2 most N cap N2 cap2 ls st S a r q hqn hc hc2 ht hr hS ha0 ha hN
theorem aE4 (hq : 512 * q + 512 * p ≤ N) (he : bY tag m (cY S q p) = r) :
  AC Tryz.prog 41 [.ptr 4 [], aB a r, .fn 80 [] [.ptr 8 [], .ptr 9 []]] 10 (fJ c p tag k1 k2 most N cap N2 cap2 ls st S ++ [(8, some ⟨.cell, .ptr 4 [], true⟩), (9, some ⟨.cell, .u32 m, true⟩)])
   ⟨.tup [.slice 10 [] 0 (512 * p) none, .i64 0], [], [(.row .cell, .u8s (cY S q p))]⟩ := by
 have hs1 := b8 ha0
 have hsz := bS 0 0 c p tag (by decide) (by decide) hp2
 have hpl := bT c p (a - 1) q hqn hc hc2 hp1 hp2 (by omega)
 have hql : q ≤ 200000 := by have := Nat.mul_le_mul (show (a - 1).toNat ≤ 65535 by omega) hp2; omega
 clear hqn
 have hrd := lD most N cap N2 cap2 ls st (512 * q) (512 * p) S hS hq hN
 rw [show (S.drop (512 * q)).take (512 * p) = cY S q p from rfl] at hrd
 have hQl : (cY S q p).length = 512 * p := by rw [cY, List.length_take, List.length_drop]; omega
 generalize cY S q p = Q at hrd hQl he ⊢
 have hsum := nT c p tag Q m 0 (512 * p) none ht (by omega) (by omega) (by omega)
 rw [List.drop_zero, List.take_of_length_le (by omega)] at hsum
 have heq := lC (bY tag m Q) r 32 (some 32) (some 32) (aR _ _ _) hr (by decide)
 rw [decide_eq_true he] at heq
 have hFl := aR tag m Q
 generalize bY tag m Q = sum at hsum hFl heq he
 have q0 : decide (a = BitVec.ofNat 32 (Int.toNat 0)) = false := decide_eq_false (fun e => by rw [e] at ha0; exact absurd ha0 (by decide))
 refine acA tab mix Tryz.func41 {} ?_
 cases ls
 all_goals
  refine gob ?_
  rw [q0]
  refine gob ?_
  refine brN ?_ (decide_eq_false (show ¬ 65536 < a.toNat by omega))
  refine gob ?_
  refine aA hpl [] ?_
  refine aA hsz [4, 0, 5] ?_
  refine aA hrd [0, 1, 2, 3] ?_
  refine aA hsum [11, 8, 9, 4, 0, 5] ?_
  refine aA ((heq.arr 0 32).arrAt 1 32 [.fld 1] gU (aB a r)) [12, 10] ?_
  refine aI [0, 1, 2, 3, 4, 5, 6, 7, 8, 9, 11]
theorem aE3 (hq : 512 * q + 512 * p ≤ N) (he : ¬ bY tag m (cY S q p) = r) :
  AC Tryz.prog 41 [.ptr 4 [], aB a r, .fn 80 [] [.ptr 8 [], .ptr 9 []]] 10 (fJ c p tag k1 k2 most N cap N2 cap2 ls st S ++ [(8, some ⟨.cell, .ptr 4 [], true⟩), (9, some ⟨.cell, .u32 m, true⟩)])
   ⟨.tup [.nilslice, .i64 40], [], []⟩ := by
 have hs1 := b8 ha0
 have hsz := bS 0 0 c p tag (by decide) (by decide) hp2
 have hpl := bT c p (a - 1) q hqn hc hc2 hp1 hp2 (by omega)
 have hql : q ≤ 200000 := by have := Nat.mul_le_mul (show (a - 1).toNat ≤ 65535 by omega) hp2; omega
 clear hqn
 have hrd := lD most N cap N2 cap2 ls st (512 * q) (512 * p) S hS hq hN
 rw [show (S.drop (512 * q)).take (512 * p) = cY S q p from rfl] at hrd
 have hQl : (cY S q p).length = 512 * p := by rw [cY, List.length_take, List.length_drop]; omega
 generalize cY S q p = Q at hrd hQl he
 have hsum := nT c p tag Q m 0 (512 * p) none ht (by omega) (by omega) (by omega)
 rw [List.drop_zero, List.take_of_length_le (by omega)] at hsum
 have heq := lC (bY tag m Q) r 32 (some 32) (some 32) (aR _ _ _) hr (by decide)
 rw [decide_eq_false he] at heq
 have hFl := aR tag m Q
 generalize bY tag m Q = sum at hsum hFl heq he
 have q0 : decide (a = BitVec.ofNat 32 (Int.toNat 0)) = false := decide_eq_false (fun e => by rw [e] at ha0; exact absurd ha0 (by decide))
 refine acA tab mix Tryz.func41 {} ?_
 cases ls
 all_goals
  refine gob ?_
  rw [q0]
  refine gob ?_
  refine brN ?_ (decide_eq_false (show ¬ 65536 < a.toNat by omega))
  refine gob ?_
  refine aA hpl [] ?_
  refine aA hsz [4, 0, 5] ?_
  refine aA hrd [0, 1, 2, 3] ?_
  refine aA hsum [11, 8, 9, 4, 0, 5] ?_
  refine aA ((heq.arr 0 32).arrAt 1 32 [.fld 1] gU (aB a r)) [12, 10] ?_
  refine aI [0, 1, 2, 3, 4, 5, 6, 7, 8, 9]
theorem aE2 (hq : N < 512 * q + 512 * p) :
  AC Tryz.prog 41 [.ptr 4 [], aB a r, .fn 80 [] [.ptr 8 [], .ptr 9 []]] 10 (fJ c p tag k1 k2 most N cap N2 cap2 ls st S ++ [(8, some ⟨.cell, .ptr 4 [], true⟩), (9, some ⟨.cell, .u32 m, true⟩)])
   ⟨.tup [.nilslice, .i64 40], [], []⟩ := by
 have hs1 := b8 ha0
 have hsz := bS 0 0 c p tag (by decide) (by decide) hp2
 have hpl := bT c p (a - 1) q hqn hc hc2 hp1 hp2 (by omega)
 have hql : q ≤ 200000 := by have := Nat.mul_le_mul (show (a - 1).toNat ≤ 65535 by omega) hp2; omega
 clear hqn
 have hrd := aBC most N cap N2 cap2 ls st (512 * q) (512 * p) hq hN (by omega) (by omega)
 have htd := jP
 have q0 : decide (a = BitVec.ofNat 32 (Int.toNat 0)) = false := decide_eq_false (fun e => by rw [e] at ha0; exact absurd ha0 (by decide))
 refine acA tab mix Tryz.func41 {} ?_
 cases ls
 all_goals
  refine gob ?_
  rw [q0]
  refine gob ?_
  refine brN ?_ (decide_eq_false (show ¬ 65536 < a.toNat by omega))
  refine gob ?_
  refine aA hpl [] ?_
  refine aA hsz [4, 0, 5] ?_
  refine aA hrd [0, 1, 2, 3] ?_
  refine aA htd [] ?_
  refine aI [0, 1, 2, 3, 4, 5, 6, 7, 8, 9]
end
section
variable (a : BitVec 32) (r : B8) (hr : r.length = 32) (h : a.toNat = 0 ∨ 65536 < a.toNat)
include a r hr h
theorem aE5 :
  AC Tryz.prog 41 [.ptr 0 [], aB a r, .fn 80 [] [.ptr 1 [], .ptr 2 []]] 3 [] ⟨.tup [.nilslice, .i64 2], [], []⟩ := by
 by_cases h0 : a.toNat = 0
 ·have q0 : decide (a = BitVec.ofNat 32 (Int.toNat 0)) = true := decide_eq_true (BitVec.eq_of_toNat_eq h0)
  refine acA tab mix Tryz.func41 {} ?_
  refine gob ?_
  rw [q0]
  refine gob ?_
  refine aI [0, 1, 2]
 ·have q0 : decide (a = BitVec.ofNat 32 (Int.toNat 0)) = false := decide_eq_false (fun e => h0 (by rw [e]; rfl))
  refine acA tab mix Tryz.func41 {} ?_
  refine gob ?_
  rw [q0]
  refine gob ?_
  refine brY ?_ (h := decide_eq_true (show 65536 < a.toNat by omega))
  refine gob ?_
  refine aI [0, 1, 2]
theorem aEQ :
  AC Tryz.prog 19 [.ptr 0 [], aB a r] 1 [] ⟨.tup [.nilslice, .i64 2], [], []⟩ := by
 have hg := wJ 56 a r hr h
 clear h
 refine acA tab mix Tryz.func19 {} ?_
 refine gob ?_
 refine aA hg [0] ?_
 refine aI [0]
end
section
variable (c p : Nat) (hp1 : 1 ≤ p) (hp2 : p ≤ 2) (tag : B8) (k1 k2 : List B8) (most N : Nat) (cap : Option Nat) (N2 : Nat) (cap2 : Option Nat) (ls : List Lo) (st : Nat) (S : B8) (a : BitVec 32) (r : B8) (q : Nat) (hqn : q = 8 + (a - 1).toNat * p) (hc : 1 ≤ c) (hc2 : c ≤ 64) (ht : tag.length = 32) (hr : r.length = 32) (hS : S.length = N) (ha0 : 1 ≤ a.toNat) (ha : a.toNat ≤ 65536) (hN : N < 70368744177664)
include c p hp1 hp2 tag k1 k2 most N cap N2 cap2 ls st S a r q hqn hc hc2 ht hr hS ha0 ha hN
set_option maxHeartbeats 4000000 in
theorem aEP (hq : 512 * q + 512 * p ≤ N) (he : b7 (cY S q p) = r) :
  AC Tryz.prog 19 [.ptr 4 [], aB a r] 8 (fJ c p tag k1 k2 most N cap N2 cap2 ls st S)
   ⟨.tup [.slice 8 [] 0 (512 * p) none, .i64 0], [], [(.row .cell, .u8s (cY S q p))]⟩ := by
 have hg := wH c p hp1 hp2 56 b7 aP (gE p hp1 hp2) tag k1 k2 most N cap N2 cap2 ls st S a r q hqn hc hc2 ht hr hS ha0 ha hN hq he
 clear he hqn
 generalize cY S q p = Q at hg ⊢
 refine acA tab mix Tryz.func19 {} ?_
 cases ls
 all_goals
  refine gob ?_
  refine aA hg [0, 1, 2, 3, 4, 5, 6, 7] ?_
  refine aI [0, 1, 2, 3, 4, 5, 6, 7, 9]
set_option maxHeartbeats 4000000 in
theorem aEO (hq : 512 * q + 512 * p ≤ N) (he : ¬ b7 (cY S q p) = r) :
  AC Tryz.prog 19 [.ptr 4 [], aB a r] 8 (fJ c p tag k1 k2 most N cap N2 cap2 ls st S)
   ⟨.tup [.nilslice, .i64 40], [], []⟩ := by
 have hg := wG c p hp1 hp2 56 b7 aP (gE p hp1 hp2) tag k1 k2 most N cap N2 cap2 ls st S a r q hqn hc hc2 ht hr hS ha0 ha hN hq he
 clear hqn he
 refine acA tab mix Tryz.func19 {} ?_
 cases ls
 all_goals
  refine gob ?_
  refine aA hg [0, 1, 2, 3, 4, 5, 6, 7] ?_
  refine aI [0, 1, 2, 3, 4, 5, 6, 7]
set_option maxHeartbeats 4000000 in
theorem aEN (hq : N < 512 * q + 512 * p) :
  AC Tryz.prog 19 [.ptr 4 [], aB a r] 8 (fJ c p tag k1 k2 most N cap N2 cap2 ls st S)
   ⟨.tup [.nilslice, .i64 40], [], []⟩ := by
 have hg := wF c p hp1 hp2 56 b7 aP (gE p hp1 hp2) tag k1 k2 most N cap N2 cap2 ls st S a r q hqn hc hc2 ht hr hS ha0 ha hN hq
 clear hqn
 refine acA tab mix Tryz.func19 {} ?_
 cases ls
 all_goals
  refine gob ?_
  refine aA hg [0, 1, 2, 3, 4, 5, 6, 7] ?_
  refine aI [0, 1, 2, 3, 4, 5, 6, 7]
end
theorem aEh (a : BitVec 32) (r : B8) (hr : r.length = 32) (h : a.toNat = 0 ∨ 65536 < a.toNat) :
  AC Tryz.prog 12 [.ptr 0 [], aB a r] 1 [] ⟨.tup [.nilslice, .i64 2], [], []⟩ := by
 have hlf := gJ a
 have hg := aE5 a r hr h
 clear h
 refine acA tab mix Tryz.func12 {} ?_
 refine gob ?_
 refine aA hlf [0] ?_
 refine aA hg [0, 2, 3] ?_
 refine aI [0]
section
variable (c p : Nat) (hp1 : 1 ≤ p) (hp2 : p ≤ 2) (tag : B8) (k1 k2 : List B8) (most N : Nat) (cap : Option Nat) (N2 : Nat) (cap2 : Option Nat) (ls : List Lo) (st : Nat) (S : B8) (a : BitVec 32) (r : B8) (q : Nat)
include c p hp1 hp2 tag k1 k2 most N cap N2 cap2 ls st S a r q
set_option maxHeartbeats 4000000 in
theorem aEg (h1 : Rows 15 16 k1) (h2 : Rows 15 16 k2) (hqn : q = 8 + (a - 1).toNat * p) (hc : 1 ≤ c) (hc2 : c ≤ 64) (ht : tag.length = 32) (hr : r.length = 32) (hS : S.length = N) (ha0 : 1 ≤ a.toNat) (ha : a.toNat ≤ 65536) (hN : N < 70368744177664) (hq : 512 * q + 512 * p ≤ N) (he : bY tag a (cY S q p) = r) :
  AC Tryz.prog 12 [.ptr 4 [], aB a r] 8 (fJ c p tag k1 k2 most N cap N2 cap2 ls st S)
   ⟨.tup [.slice 8 [] 0 (512 * p) none, .i64 0], [], [(.row .cell, .u8s (aA6 k1 k2 (cY S q p) q p))]⟩ := by
 have hlf := gJ a
 have hg := aE4 c p hp1 hp2 a tag k1 k2 most N cap N2 cap2 ls st S a r q hqn hc hc2 ht hr hS ha0 ha hN hq he
 have hs1 := b8 ha0
 have hse := iJ c p tag (a - 1) q hqn hc hc2 hp1 hp2 (by omega)
 have hQl : (cY S q p).length = 512 * p := by rw [cY, List.length_take, List.length_drop]; omega
 clear he hqn
 generalize cY S q p = Q at hg hQl ⊢
 have hop := aCd (.row .cell) (.inl rfl) k1 k2 h1 h2 Q 0 p none (BitVec.ofNat 64 q) (by omega) (by omega) (by omega)
 rw [show ovI (iH k1) k2 Q 0 (BitVec.ofNat 64 q) p = aA6 k1 k2 Q q p from rfl] at hop
 generalize aA6 k1 k2 Q q p = X at hop ⊢
 refine acA tab mix Tryz.func12 {} ?_
 cases ls
 all_goals
  refine gob ?_
  refine aA hlf [4] ?_
  refine aA hg [0, 1, 2, 3, 4, 5, 6, 7, 9, 10] ?_
  refine aA hse [4, 0, 5] ?_
  refine aA hop [5, 6, 7, 11] ?_
  refine aI [0, 1, 2, 3, 4, 5, 6, 7, 12]
section
variable (hqn : q = 8 + (a - 1).toNat * p) (hc : 1 ≤ c) (hc2 : c ≤ 64) (ht : tag.length = 32) (hr : r.length = 32) (hS : S.length = N) (ha0 : 1 ≤ a.toNat) (ha : a.toNat ≤ 65536) (hN : N < 70368744177664)
include hqn hc hc2 ht hr hS ha0 ha hN
set_option maxHeartbeats 4000000 in
theorem aEf (hq : 512 * q + 512 * p ≤ N) (he : ¬ bY tag a (cY S q p) = r) :
  AC Tryz.prog 12 [.ptr 4 [], aB a r] 8 (fJ c p tag k1 k2 most N cap N2 cap2 ls st S)
   ⟨.tup [.nilslice, .i64 40], [], []⟩ := by
 have hlf := gJ a
 have hg := aE3 c p hp1 hp2 a tag k1 k2 most N cap N2 cap2 ls st S a r q hqn hc hc2 ht hr hS ha0 ha hN hq he
 clear hqn he
 refine acA tab mix Tryz.func12 {} ?_
 cases ls
 all_goals
  refine gob ?_
  refine aA hlf [4] ?_
  refine aA hg [0, 1, 2, 3, 4, 5, 6, 7, 9, 10] ?_
  refine aI [0, 1, 2, 3, 4, 5, 6, 7]
set_option maxHeartbeats 4000000 in
theorem aEe (hq : N < 512 * q + 512 * p) :
  AC Tryz.prog 12 [.ptr 4 [], aB a r] 8 (fJ c p tag k1 k2 most N cap N2 cap2 ls st S)
   ⟨.tup [.nilslice, .i64 40], [], []⟩ := by
 have hlf := gJ a
 have hg := aE2 c p hp1 hp2 a tag k1 k2 most N cap N2 cap2 ls st S a r q hqn hc hc2 ht hr hS ha0 ha hN hq
 clear hqn
 refine acA tab mix Tryz.func12 {} ?_
 cases ls
 all_goals
  refine gob ?_
  refine aA hlf [4] ?_
  refine aA hg [0, 1, 2, 3, 4, 5, 6, 7, 9, 10] ?_
  refine aI [0, 1, 2, 3, 4, 5, 6, 7]
end
end
theorem aEW (a : BitVec 32) (r : B8) (hr : r.length = 32) (h : a.toNat = 0 ∨ 65536 < a.toNat) :
  AC Tryz.prog 17 [.ptr 0 [], aB a r] 1 [] ⟨.tup [iO, .i64 2], [], []⟩ := by
 have hg := wJ 49 a r hr h
 clear h
 refine acA tab mix Tryz.func17 {} ?_
 refine gob ?_
 refine aA hg [0] ?_
 refine aI [0]
section
variable (c p : Nat) (hp1 : 1 ≤ p) (hp2 : p ≤ 2) (tag : B8) (k1 k2 : List B8) (most N : Nat) (cap : Option Nat) (N2 : Nat) (cap2 : Option Nat) (ls : List Lo) (st : Nat) (S : B8) (a : BitVec 32) (r : B8) (q : Nat) (hqn : q = 8 + (a - 1).toNat * p) (hc : 1 ≤ c) (hc2 : c ≤ 64) (ht : tag.length = 32) (hr : r.length = 32) (hS : S.length = N) (ha0 : 1 ≤ a.toNat) (ha : a.toNat ≤ 65536) (hN : N < 70368744177664)
include c p hp1 hp2 tag k1 k2 most N cap N2 cap2 ls st S a r q hqn hc hc2 ht hr hS ha0 ha hN
set_option maxHeartbeats 4000000 in
theorem aEV (hq : 512 * q + 512 * p ≤ N) (he : dL (cY S q p) = r) :
  AC Tryz.prog 17 [.ptr 4 [], aB a r] 8 (fJ c p tag k1 k2 most N cap N2 cap2 ls st S)
   ⟨.tup [(pR (cY S q p) p).1, .i64 (pR (cY S q p) p).2], [], []⟩ := by
 have hg := wH c p hp1 hp2 49 dL bE (mD p hp1 hp2) tag k1 k2 most N cap N2 cap2 ls st S a r q hqn hc hc2 ht hr hS ha0 ha hN hq he
 have hQl : (cY S q p).length = 512 * p := by rw [cY, List.length_take, List.length_drop]; omega
 clear he hqn
 generalize cY S q p = Q at hg hQl ⊢
 have hp := aHl
 generalize bA 0 0 0 0 0 0 0 0 (zB 32) (zB 32) (zB 32) (zB 32) (zB 32) (zB 32) (zB 32) (zB 32) = Z at hp
 have hn := aJ9 Q (by omega)
 have hz := aGI Q 288 (512 * p - 288) none (by omega) (by omega)
 unfold pR aDa at *
 have hzl : (((512 * p : Nat) : Int).toNat - 288) = 512 * p - 288 := by omega
 cases hb : aGw Q with
 |true =>
  rw [hb] at hn
  simp only [Bool.true_or, cond_true] at hn ⊢
  refine acA tab mix Tryz.func17 {} ?_
  cases ls
  all_goals
   refine gob ?_
   refine aA hg [0, 1, 2, 3, 4, 5, 6, 7] ?_
   refine aA hp [] ?_
   refine aA hn [10] ?_
   refine EffG.mk (And.intro ?_ ?_)
   ·(repeat' (first | assumption | exact trivial | refine And.intro ?_ ?_)) <;> first | rfl | omega
   refine gob ?_
   refine aI [0, 1, 2, 3, 4, 5, 6, 7]
 |false =>
  rw [hb] at hn
  simp only [Bool.false_or, cond_false] at hn ⊢
  obtain ⟨a0, a1, a2, a3, a4, a5, a6, a7, s0, s1, s2, s3, s4, s5, s6, s7, hG, l0, l1, l2, l3, l4, l5, l6, l7⟩ := qT (Q := Q) (by omega)
  cases hz0 : eH Q 288 (512 * p - 288) with
  |true =>
   rw [hz0] at hz
   simp only [Bool.not_true, cond_false]
   rw [hG] at hn ⊢
   refine acA tab mix Tryz.func17 {} ?_
   cases ls
   all_goals
    refine gob ?_
    refine aA hg [0, 1, 2, 3, 4, 5, 6, 7] ?_
    refine aA hp [] ?_
    refine aA hn [10] ?_
    refine EffG.mk (And.intro ?_ ?_)
    ·(repeat' (first | assumption | exact trivial | refine And.intro ?_ ?_)) <;> first | rfl | omega
    refine gob ?_
    refine aA hz [10] ?_ (hargs := congrArg (fun l => [D.slice 10 [] 288 l none]) hzl)
    refine EffG.mk (And.intro ?_ ?_)
    ·(repeat' (first | assumption | exact trivial | refine And.intro ?_ ?_)) <;> first | rfl | omega
    refine gob ?_
    refine aI [0, 1, 2, 3, 4, 5, 6, 7]
  |false =>
   rw [hz0] at hz
   simp only [Bool.not_false, cond_true]
   rw [hG] at hn
   refine acA tab mix Tryz.func17 {} ?_
   cases ls
   all_goals
    refine gob ?_
    refine aA hg [0, 1, 2, 3, 4, 5, 6, 7] ?_
    refine aA hp [] ?_
    refine aA hn [10] ?_
    refine EffG.mk (And.intro ?_ ?_)
    ·(repeat' (first | assumption | exact trivial | refine And.intro ?_ ?_)) <;> first | rfl | omega
    refine gob ?_
    refine aA hz [10] ?_ (hargs := congrArg (fun l => [D.slice 10 [] 288 l none]) hzl)
    refine aI [0, 1, 2, 3, 4, 5, 6, 7]
set_option maxHeartbeats 4000000 in
theorem aEU (hq : 512 * q + 512 * p ≤ N) (he : ¬ dL (cY S q p) = r) :
  AC Tryz.prog 17 [.ptr 4 [], aB a r] 8 (fJ c p tag k1 k2 most N cap N2 cap2 ls st S)
   ⟨.tup [iO, .i64 40], [], []⟩ := by
 have hg := wG c p hp1 hp2 49 dL bE (mD p hp1 hp2) tag k1 k2 most N cap N2 cap2 ls st S a r q hqn hc hc2 ht hr hS ha0 ha hN hq he
 clear hqn he
 refine acA tab mix Tryz.func17 {} ?_
 cases ls
 all_goals
  refine gob ?_
  refine aA hg [0, 1, 2, 3, 4, 5, 6, 7] ?_
  refine aI [0, 1, 2, 3, 4, 5, 6, 7]
set_option maxHeartbeats 4000000 in
theorem aET (hq : N < 512 * q + 512 * p) :
  AC Tryz.prog 17 [.ptr 4 [], aB a r] 8 (fJ c p tag k1 k2 most N cap N2 cap2 ls st S)
   ⟨.tup [iO, .i64 40], [], []⟩ := by
 have hg := wF c p hp1 hp2 49 dL bE (mD p hp1 hp2) tag k1 k2 most N cap N2 cap2 ls st S a r q hqn hc hc2 ht hr hS ha0 ha hN hq
 clear hqn
 refine acA tab mix Tryz.func17 {} ?_
 cases ls
 all_goals
  refine gob ?_
  refine aA hg [0, 1, 2, 3, 4, 5, 6, 7] ?_
  refine aI [0, 1, 2, 3, 4, 5, 6, 7]
end
theorem aEk (l : B8) (o j : Nat) (hj : j < 16) : (eB l o).getD j 0 = l.getD (o + j) 0 := by
 unfold eB; rw [kE hj, kF]
def nI (s : BitVec 64) : Nat → B8
 |0 => List.replicate 16 0
 |n + 1 => (nI s n).set n ((s >>> (8 * n)).setWidth 8)
theorem iQ (s : BitVec 64) : ∀ n, (nI s n).length = 16
 |0 => rfl
 |n + 1 => by rw [nI, List.length_set, iQ s n]
theorem aIe (s : BitVec 64) : ∀ n, aGa s n = (nI s n, s >>> (8 * n))
 |0 => by
  rw [show s >>> (8 * 0) = s from by simp]
  rfl
 |n + 1 => by
  rw [aGa, aIe s n, nI]
  show (_, s >>> (8 * n) >>> 8) = _
  rw [← BitVec.shiftRight_add]
  rfl
def aGo : Nat → B8
 |0 => List.replicate 256 0
 |n + 1 => (aGo n).set (boxL.getD n 0).toNat (BitVec.ofInt 8 n)
theorem p8 : ∀ n, (aGo n).length = 256
 |0 => List.length_replicate
 |n + 1 => by rw [aGo, List.length_set, p8 n]
theorem aKJ : aGo 256 = unboxL := by kernel_rfl
theorem aH7 : AC Tryz.prog 149 [] 0 gB ⟨.u8s unboxL, [], []⟩ := by
 refine cN tab mix Tryz.func149 rfl (by kernel_rfl) (by kernel_rfl) (by kernel_rfl) {} ?_
 refine stN ?_
 refine aX Nat (fun n => [(0, .ptr 0 []), (1, .ptr 1 []), (2, .i64 n)])
  (fun n => [(0, some ⟨jG, .u8s (List.replicate 256 0), true⟩), (1, some ⟨jG, .u8s (aGo n), true⟩), (gid 0, some ⟨jG, .u8s boxL, false⟩)]) 2 (fun n => n ≤ 256) (fun n => 256 - n) 0 [0, 1] (Nat.zero_le _) ?_ ?_
 ·exact aN rfl ⟨rfl, rfl, rfl, trivial⟩ ⟨⟨_, rfl, rfl, rfl, id⟩, ⟨_, rfl, rfl, rfl, id⟩, ⟨_, rfl, rfl, rfl, id⟩, trivial⟩ rfl
 intro n hn
 have hl := p8 n
 have hb := eZ
 refine stN ?_
 refine Br.split (fun h => ?_) (fun h => ?_)
 ·have hn : n < 256 := by have := of_decide_eq_true h; omega
  have hx := (boxL.getD n 0).isLt
  repeat first | rw [Int.toNat_natCast] | refine st1 ?_
  refine bQ (n + 1) [0, 1] ?_ ?_ ?_
  ·omega
  ·omega
  ·exact aN rfl ⟨rfl, rfl, rfl, trivial⟩ ⟨⟨_, rfl, rfl, rfl, id⟩, ⟨_, rfl, rfl, rfl, id⟩, ⟨_, rfl, rfl, rfl, id⟩, trivial⟩ rfl
 ·have hn : n = 256 := by have := of_decide_eq_false h; omega
  subst hn
  rw [aKJ] at hl ⊢
  refine stN ?_
  refine gC [] rfl rfl ⟨⟨_, rfl, rfl, rfl, id⟩, trivial⟩ rfl
def t14F (a : BitVec 8) : BitVec 8 := 0 ^^^ aF a ^^^ aF (aF a) ^^^ aF (aF (aF a))
def t11F (a : BitVec 8) : BitVec 8 := 0 ^^^ a ^^^ aF a ^^^ aF (aF (aF a))
def t13F (a : BitVec 8) : BitVec 8 := 0 ^^^ a ^^^ aF (aF a) ^^^ aF (aF (aF a))
def t9F (a : BitVec 8) : BitVec 8 := 0 ^^^ a ^^^ aF (aF (aF a))
def sA (t : B8) (n : Nat) : BitVec 8 :=
 t14F (t.getD (4 * (n / 4) + n % 4) 0) ^^^ t11F (t.getD (4 * (n / 4) + (n % 4 + 1) % 4) 0) ^^^ t13F (t.getD (4 * (n / 4) + (n % 4 + 2) % 4) 0) ^^^ t9F (t.getD (4 * (n / 4) + (n % 4 + 3) % 4) 0)
def sB (t : B8) : B8 := gW id (sA t) t 16
def r8 (n : Nat) : Nat := 4 * ((n / 4 + n % 4) % 4) + n % 4
def r9 (un t : B8) (n : Nat) : BitVec 8 := un.getD (t.getD (4 * (n / 4) + n % 4) 0).toNat 0
def aCs (un t : B8) : B8 := gW r8 (r9 un t) t 16
def aAT (ks : List B8) (k : Nat) (s : B8) : B8 := if 14 - k < 14 then sB (eM s (ks.getD (14 - k) [])) else eM s (ks.getD (14 - k) [])
def jK (un : B8) (ks : List B8) (b : B8) : Nat → B8
 |0 => b
 |k + 1 => aCs un (aAT ks k (jK un ks b k))
def aH5 (un : B8) (ks : List B8) (b : B8) : B8 := eM (jK un ks b 14) (ks.getD 0 [])
theorem uQ (t : B8) : (sB t).length = t.length := cB _ _ _ 16
theorem nF (un t : B8) : (aCs un t).length = t.length := cB _ _ _ 16
theorem pM (ks : List B8) (k : Nat) (s : B8) : (aAT ks k s).length = s.length := by
 unfold aAT
 split
 ·rw [uQ, aJ]
 ·rw [aJ]
theorem pN (un : B8) (ks : List B8) (b : B8) (hb : b.length = 16) : ∀ k, (jK un ks b k).length = 16
 |0 => hb
 |k + 1 => by rw [jK, nF, pM, pN un ks b hb k]
theorem ux1 (b : BitVec 8) {un : B8} (h : un.length = 256) : ((b.toNat : Int).toNat < un.length ∧ True) := by
 have := b.isLt
 rw [h, Int.toNat_natCast]
 exact ⟨by omega, trivial⟩
set_option maxHeartbeats 4000000 in
theorem aJ1 (ks : List B8) (un b : B8) (hun : un.length = 256) (hb : b.length = 16) (hr : Rows 15 16 ks) :
  AC Tryz.prog 150 [.node (ks.map .u8s), .u8s un, .u8s b] 0 [] ⟨.u8s (aH5 un ks b), [], []⟩ := by
 have h1 : ks.length = 15 := hr.1
 have hm : (ks.map D.u8s).length = 15 := by rw [List.length_map, h1]
 refine cN tab mix Tryz.func150 rfl (by kernel_rfl) (by kernel_rfl) (by kernel_rfl) ⟨[15], []⟩ ?_
 refine EffG.mk (And.intro hr.ty ?_)
 refine stN ?_
 refine aX Nat (fun k => [(3, .ptr 0 []), (4, .ptr 1 []), (6, .ptr 3 []), (7, .ptr 4 []), (8, .i64 (14 - k : Nat))])
  (fun k => [(0, some ⟨t15, .node (ks.map .u8s), true⟩), (1, some ⟨jG, .u8s un, true⟩), (3, some ⟨t16, .u8s (List.replicate 16 0), true⟩), (4, some ⟨t16, .u8s (jK un ks b k), true⟩)]) 5 (fun k => k ≤ 14) (fun k => 14 - k) 0 [0, 1, 2, 3, 4] (Nat.zero_le _) ?_ ?_
 ·exact aN rfl ⟨rfl, rfl, rfl, rfl, rfl, trivial⟩ ⟨⟨_, rfl, rfl, (aD _ _).symm, id⟩, ⟨_, rfl, rfl, rfl, id⟩, ⟨_, rfl, rfl, rfl, id⟩, ⟨_, rfl, rfl, rfl, id⟩, trivial⟩ rfl
 intro k hk14
 have hl := pN un ks b hb k
 refine stN ?_
 refine Br.split (fun h => ?_) (fun h => ?_)
 ·have hk14 : k < 14 := by have := of_decide_eq_true h; omega
  have hc : jK un ks b (k + 1) = aCs un (aAT ks k (jK un ks b k)) := rfl
  have hT : aAT ks k (jK un ks b k) = if 14 - k < 14 then sB (eM (jK un ks b k) (ks.getD (14 - k) [])) else eM (jK un ks b k) (ks.getD (14 - k) []) := rfl
  have hTl := pM ks k (jK un ks b k)
  rw [hl] at hTl
  generalize aAT ks k (jK un ks b k) = z at hc hT hTl
  generalize jK un ks b k = s at hl hT ⊢
  have ht := aJ s (ks.getD (14 - k) [])
  rw [hl] at ht
  repeat first | (rw [bL (l := ks)]; rotate_left; omega) | rw [Int.toNat_natCast (14 - k)] | refine st1 ?_
  refine bF (wU s (ks.getD (14 - k) []) hl (hr.get (by omega))) [] rfl rfl trivial rfl rfl ?_
  generalize eM s (ks.getD (14 - k) []) = t at ht hT ⊢
  refine stN ?_
  refine u2 Unit (fun _ => [(3, .ptr 0 []), (4, .ptr 1 []), (6, .ptr 3 []), (7, .ptr 4 []), (8, .i64 (14 - k : Nat)), (9, .ptr 5 [])])
   (fun _ => [(0, some ⟨t15, .node (ks.map .u8s), true⟩), (1, some ⟨jG, .u8s un, true⟩), (3, some ⟨t16, .u8s (List.replicate 16 0), true⟩), (4, some ⟨t16, .u8s z, true⟩), (5, some ⟨t16, .u8s t, true⟩)]) 6 (fun _ => True) ?_ ?_
  ·refine stN ?_
   refine aX Nat (fun c => [(3, .ptr 0 []), (4, .ptr 1 []), (6, .ptr 3 []), (7, .ptr 4 []), (8, .i64 (14 - k : Nat)), (9, .ptr 5 []), (10, .i64 c)])
    (fun c => [(0, some ⟨t15, .node (ks.map .u8s), true⟩), (1, some ⟨jG, .u8s un, true⟩), (3, some ⟨t16, .u8s (List.replicate 16 0), true⟩), (4, some ⟨t16, .u8s (gW id (sA t) t (4 * c)), true⟩), (5, some ⟨t16, .u8s t, true⟩)]) 6 (fun c => c ≤ 4 ∧ (¬ 14 - k < 14 → c = 0)) (fun c => 4 - c) 0 [0, 1, 2, 3, 4, 5] ⟨Nat.zero_le _, fun _ => rfl⟩ ?_ ?_
   ·exact aN rfl ⟨rfl, rfl, rfl, rfl, rfl, rfl, rfl, trivial⟩ ⟨⟨_, rfl, rfl, (aD _ _).symm, id⟩, ⟨_, rfl, rfl, rfl, id⟩, ⟨_, rfl, rfl, rfl, id⟩, ⟨_, rfl, rfl, rfl, id⟩, ⟨_, rfl, rfl, rfl, id⟩, trivial⟩ rfl
   intro c ⟨hc4, hc0⟩
   refine stN ?_
   refine Br.split (fun h => ?_) (fun h => ?_)
   ·have hc4 : c < 4 := by have := of_decide_eq_true h; omega
    repeat first | refine st1 ?_ | refine Br.yes rfl ?_
    refine Br.split (fun h => ?_) (fun h => ?_)
    ·have hk : 14 - k < 14 := by have := of_decide_eq_true h; omega
     refine stN ?_
     refine aX Nat (fun r => [(3, .ptr 0 []), (4, .ptr 1 []), (6, .ptr 3 []), (7, .ptr 4 []), (8, .i64 (14 - k : Nat)), (9, .ptr 5 []), (10, .i64 c), (11, .i64 r)])
      (fun r => [(0, some ⟨t15, .node (ks.map .u8s), true⟩), (1, some ⟨jG, .u8s un, true⟩), (3, some ⟨t16, .u8s (List.replicate 16 0), true⟩), (4, some ⟨t16, .u8s (gW id (sA t) t (4 * c + r)), true⟩), (5, some ⟨t16, .u8s t, true⟩)]) 6 (fun r => r ≤ 4) (fun r => 4 - r) 0 [0, 1, 2, 3, 4, 5] (Nat.zero_le _) ?_ ?_
     ·exact aN rfl ⟨rfl, rfl, rfl, rfl, rfl, rfl, rfl, rfl, trivial⟩ ⟨⟨_, rfl, rfl, (aD _ _).symm, id⟩, ⟨_, rfl, rfl, rfl, id⟩, ⟨_, rfl, rfl, rfl, id⟩, ⟨_, rfl, rfl, rfl, id⟩, ⟨_, rfl, rfl, rfl, id⟩, trivial⟩ rfl
     intro r hr4
     have hq := cB id (sA t) t (4 * c + r)
     rw [ht] at hq
     refine stN ?_
     refine Br.split (fun h => ?_) (fun h => ?_)
     ·have hr4 : r < 4 := by have := of_decide_eq_true h; omega
      have e1 : 4 * (c : Int) + (r : Int) = ((4 * c + r : Nat) : Int) := by omega
      have m1 : Int.tmod ((r : Int) + 1) 4 = (((r + 1) % 4 : Nat) : Int) := Int.ofNat_tmod (r + 1) 4
      have m2 : Int.tmod ((r : Int) + 2) 4 = (((r + 2) % 4 : Nat) : Int) := Int.ofNat_tmod (r + 2) 4
      have m3 : Int.tmod ((r : Int) + 3) 4 = (((r + 3) % 4 : Nat) : Int) := Int.ofNat_tmod (r + 3) 4
      have n1 : 4 * (c : Int) + (((r + 1) % 4 : Nat) : Int) = ((4 * c + (r + 1) % 4 : Nat) : Int) := by omega
      have n2 : 4 * (c : Int) + (((r + 2) % 4 : Nat) : Int) = ((4 * c + (r + 2) % 4 : Nat) : Int) := by omega
      have n3 : 4 * (c : Int) + (((r + 3) % 4 : Nat) : Int) = ((4 * c + (r + 3) % 4 : Nat) : Int) := by omega
      repeat first | rw [e1] | rw [m1] | rw [m2] | rw [m3] | rw [n1] | rw [n2] | rw [n3] | rw [Int.toNat_natCast] | refine st1 ?_
      refine bF (aDq _) [] rfl rfl trivial rfl rfl ?_
      refine stN ?_
      refine bF (aDs _) [] rfl rfl trivial rfl rfl ?_
      refine stN ?_
      refine bF (aDr _) [] rfl rfl trivial rfl rfl ?_
      refine stN ?_
      refine bF (aFE _) [] rfl rfl trivial rfl rfl ?_
      refine stN ?_
      refine bQ (r + 1) [0, 1, 2, 3, 4, 5] ?_ ?_ ?_
      ·omega
      ·omega
      ·refine aN rfl ⟨rfl, rfl, rfl, rfl, rfl, rfl, rfl, rfl, trivial⟩ ⟨⟨_, rfl, rfl, (aD _ _).symm, id⟩, ⟨_, rfl, rfl, rfl, id⟩, ⟨_, rfl, rfl, rfl, id⟩, ⟨_, rfl, rfl, congrArg D.u8s ?_, id⟩, ⟨_, rfl, rfl, rfl, id⟩, trivial⟩ rfl
       rw [← Nat.add_assoc, gW, sA, show (4 * c + r) / 4 = c by omega, show (4 * c + r) % 4 = r by omega]
       rfl
     ·have hr4 : r = 4 := by have := of_decide_eq_false h; omega
      subst hr4
      refine stN ?_
      refine bQ (c + 1) [0, 1, 2, 3, 4, 5] ?_ ?_ ?_
      ·exact ⟨by omega, fun h => absurd hk h⟩
      ·show 4 - (c + 1) < 4 - c
       omega
      ·exact aN rfl ⟨rfl, rfl, rfl, rfl, rfl, rfl, rfl, trivial⟩ ⟨⟨_, rfl, rfl, (aD _ _).symm, id⟩, ⟨_, rfl, rfl, rfl, id⟩, ⟨_, rfl, rfl, rfl, id⟩, ⟨_, rfl, rfl, rfl, id⟩, ⟨_, rfl, rfl, rfl, id⟩, trivial⟩ rfl
    ·have hk : ¬ 14 - k < 14 := by have := of_decide_eq_false h; omega
     have hc0 := hc0 hk
     subst hc0
     rw [if_neg hk] at hT
     refine iR () [0, 1, 2, 3, 4, 5] trivial ?_
     exact aN rfl ⟨rfl, rfl, rfl, rfl, rfl, rfl, trivial⟩ ⟨⟨_, rfl, rfl, (aD _ _).symm, id⟩, ⟨_, rfl, rfl, rfl, id⟩, ⟨_, rfl, rfl, rfl, id⟩, ⟨_, rfl, rfl, congrArg D.u8s hT.symm, id⟩, ⟨_, rfl, rfl, rfl, id⟩, trivial⟩ rfl
   ·have hc4 : c = 4 := by have := of_decide_eq_false h; omega
    subst hc4
    have hk : 14 - k < 14 := Decidable.byContradiction fun h => by have := hc0 h; omega
    rw [if_pos hk] at hT
    repeat first | refine st1 ?_ | refine Br.no rfl ?_
    refine iR () [0, 1, 2, 3, 4, 5] trivial ?_
    exact aN rfl ⟨rfl, rfl, rfl, rfl, rfl, rfl, trivial⟩ ⟨⟨_, rfl, rfl, (aD _ _).symm, id⟩, ⟨_, rfl, rfl, rfl, id⟩, ⟨_, rfl, rfl, rfl, id⟩, ⟨_, rfl, rfl, congrArg D.u8s hT.symm, id⟩, ⟨_, rfl, rfl, rfl, id⟩, trivial⟩ rfl
  intro _ _
  refine stN ?_
  refine aX Nat (fun c => [(3, .ptr 0 []), (4, .ptr 1 []), (6, .ptr 3 []), (7, .ptr 4 []), (8, .i64 (14 - k : Nat)), (9, .ptr 5 []), (16, .i64 c)])
   (fun c => [(0, some ⟨t15, .node (ks.map .u8s), true⟩), (1, some ⟨jG, .u8s un, true⟩), (3, some ⟨t16, .u8s (List.replicate 16 0), true⟩), (4, some ⟨t16, .u8s (gW r8 (r9 un z) z (4 * c)), true⟩), (5, some ⟨t16, .u8s z, true⟩)]) 6 (fun c => c ≤ 4) (fun c => 4 - c) 0 [0, 1, 2, 3, 4, 5] (Nat.zero_le _) ?_ ?_
  ·exact aN rfl ⟨rfl, rfl, rfl, rfl, rfl, rfl, rfl, trivial⟩ ⟨⟨_, rfl, rfl, (aD _ _).symm, id⟩, ⟨_, rfl, rfl, rfl, id⟩, ⟨_, rfl, rfl, rfl, id⟩, ⟨_, rfl, rfl, rfl, id⟩, ⟨_, rfl, rfl, rfl, id⟩, trivial⟩ rfl
  intro c hc4
  refine stN ?_
  refine Br.split (fun h => ?_) (fun h => ?_)
  ·have hc4 : c < 4 := by have := of_decide_eq_true h; omega
   refine stN ?_
   refine aX Nat (fun r => [(3, .ptr 0 []), (4, .ptr 1 []), (6, .ptr 3 []), (7, .ptr 4 []), (8, .i64 (14 - k : Nat)), (9, .ptr 5 []), (16, .i64 c), (17, .i64 r)])
    (fun r => [(0, some ⟨t15, .node (ks.map .u8s), true⟩), (1, some ⟨jG, .u8s un, true⟩), (3, some ⟨t16, .u8s (List.replicate 16 0), true⟩), (4, some ⟨t16, .u8s (gW r8 (r9 un z) z (4 * c + r)), true⟩), (5, some ⟨t16, .u8s z, true⟩)]) 6 (fun r => r ≤ 4) (fun r => 4 - r) 0 [0, 1, 2, 3, 4, 5] (Nat.zero_le _) ?_ ?_
   ·exact aN rfl ⟨rfl, rfl, rfl, rfl, rfl, rfl, rfl, rfl, trivial⟩ ⟨⟨_, rfl, rfl, (aD _ _).symm, id⟩, ⟨_, rfl, rfl, rfl, id⟩, ⟨_, rfl, rfl, rfl, id⟩, ⟨_, rfl, rfl, rfl, id⟩, ⟨_, rfl, rfl, rfl, id⟩, trivial⟩ rfl
   intro r hr4
   have hq := cB r8 (r9 un z) z (4 * c + r)
   rw [hTl] at hq
   refine stN ?_
   refine Br.split (fun h => ?_) (fun h => ?_)
   ·have hr4 : r < 4 := by have := of_decide_eq_true h; omega
    have e1 : 4 * (c : Int) + (r : Int) = ((4 * c + r : Nat) : Int) := by omega
    have e2 : Int.tmod ((c : Int) + (r : Int)) 4 = (((c + r) % 4 : Nat) : Int) := Int.ofNat_tmod (c + r) 4
    have e3 : 4 * (((c + r) % 4 : Nat) : Int) + (r : Int) = ((4 * ((c + r) % 4) + r : Nat) : Int) := by omega
    repeat first | rw [e1] | rw [e2] | rw [e3] | rw [Int.toNat_natCast] | refine EffG.mk (And.intro (gx1 _) ?_) | refine EffG.mk (And.intro (ux1 _ hun) ?_) | refine st1 ?_
    refine bQ (r + 1) [0, 1, 2, 3, 4, 5] ?_ ?_ ?_
    ·omega
    ·omega
    ·refine aN rfl ⟨rfl, rfl, rfl, rfl, rfl, rfl, rfl, rfl, trivial⟩ ⟨⟨_, rfl, rfl, (aD _ _).symm, id⟩, ⟨_, rfl, rfl, rfl, id⟩, ⟨_, rfl, rfl, rfl, id⟩, ⟨_, rfl, rfl, congrArg D.u8s ?_, id⟩, ⟨_, rfl, rfl, rfl, id⟩, trivial⟩ rfl
     rw [← Nat.add_assoc, gW, r9, r8, show (4 * c + r) / 4 = c by omega, show (4 * c + r) % 4 = r by omega]
   ·have hr4 : r = 4 := by have := of_decide_eq_false h; omega
    subst hr4
    refine stN ?_
    refine bQ (c + 1) [0, 1, 2, 3, 4, 5] ?_ ?_ ?_
    ·omega
    ·omega
    ·exact aN rfl ⟨rfl, rfl, rfl, rfl, rfl, rfl, rfl, trivial⟩ ⟨⟨_, rfl, rfl, (aD _ _).symm, id⟩, ⟨_, rfl, rfl, rfl, id⟩, ⟨_, rfl, rfl, rfl, id⟩, ⟨_, rfl, rfl, rfl, id⟩, ⟨_, rfl, rfl, rfl, id⟩, trivial⟩ rfl
  ·have hc4 : c = 4 := by have := of_decide_eq_false h; omega
   subst hc4
   refine stN ?_
   refine bQ (k + 1) [0, 1, 2, 3, 4] ?_ ?_ ?_
   ·omega
   ·omega
   ·exact aN rfl ⟨rfl, rfl, rfl, rfl, congrArg (fun x => some (D.i64 x)) (by omega), trivial⟩ ⟨⟨_, rfl, rfl, (aD _ _).symm, id⟩, ⟨_, rfl, rfl, rfl, id⟩, ⟨_, rfl, rfl, rfl, id⟩, ⟨_, rfl, rfl, congrArg D.u8s hc.symm, id⟩, trivial⟩ rfl
 ·have hk14 : k = 14 := by have := of_decide_eq_false h; omega
  subst hk14
  have hx := aJ (jK un ks b 14) (ks.getD 0 [])
  rw [hl] at hx
  have hF : aH5 un ks b = eM (jK un ks b 14) (ks.getD 0 []) := rfl
  rw [hF]
  generalize jK un ks b 14 = z at hl hx ⊢
  repeat first | (rw [bL (l := ks)]; rotate_left; omega) | refine st1 ?_
  refine bF (wU z (ks.getD 0 []) hl (hr.get (by omega))) [] rfl rfl trivial rfl rfl ?_
  generalize eM z (ks.getD 0 []) = x at hx ⊢
  refine stN ?_
  refine gC [] rfl rfl trivial rfl
theorem aHR (t : B8) (ht : t.length = 16) : aCs unboxL t = uB t 16 := by
 refine aII (by rw [nF, ht]) (d7 t 16) fun i hi => ?_
 obtain ⟨j, hj, rfl⟩ := aFT i hi
 have hx : ∀ i, i < 16 → r8 i = sg i := aFU
 have h := w6 (ix := r8) (r9 unboxL t) t 16 (fun i hi => by rw [hx i hi, ht]; exact sg_lt i) (fun i hi j hj h => by rw [hx i hi, hx j hj] at h; exact aI3 i hi j hj h) 16 (Nat.le_refl _) j hj
 rw [hx j hj] at h
 rw [wV t 16 (Nat.le_refl _) j hj]
 refine h.trans ?_
 unfold r9 rH
 rw [show 4 * (j / 4) + j % 4 = j by omega]
def riF (f : BitVec 8 → BitVec 8) (a b c d : BitVec 8) : BitVec 8 :=
 (0 ^^^ f a ^^^ f (f a) ^^^ f (f (f a))) ^^^ (0 ^^^ b ^^^ f b ^^^ f (f (f b))) ^^^ (0 ^^^ c ^^^ f (f c) ^^^ f (f (f c))) ^^^ (0 ^^^ d ^^^ f (f (f d)))
theorem zV (a0 a1 a2 a3 a4 a5 a6 a7 a8 a9 a10 a11 a12 a13 a14 a15 : BitVec 8) : sB [a0, a1, a2, a3, a4, a5, a6, a7, a8, a9, a10, a11, a12, a13, a14, a15] =
  [riF aF a0 a1 a2 a3, riF aF a1 a2 a3 a0, riF aF a2 a3 a0 a1, riF aF a3 a0 a1 a2] ++ [riF aF a4 a5 a6 a7, riF aF a5 a6 a7 a4, riF aF a6 a7 a4 a5, riF aF a7 a4 a5 a6] ++
  [riF aF a8 a9 a10 a11, riF aF a9 a10 a11 a8, riF aF a10 a11 a8 a9, riF aF a11 a8 a9 a10] ++ [riF aF a12 a13 a14 a15, riF aF a13 a14 a15 a12, riF aF a14 a15 a12 a13, riF aF a15 a12 a13 a14] := by
 kernel_rfl
theorem z_xor (x : BitVec 8) : 0 ^^^ x = x := BitVec.zero_xor
theorem xA (f : BitVec 8 → BitVec 8) (hf : ∀ x y, f (x ^^^ y) = f x ^^^ f y) (a b c d p0 p1 p2 p3 : BitVec 8) (h0 : p0 = a ^^^ f (f (a ^^^ c))) (h1 : p1 = b ^^^ f (f (b ^^^ d))) (h2 : p2 = c ^^^ f (f (a ^^^ c))) (h3 : p3 = d ^^^ f (f (b ^^^ d))) :
  riF f a b c d = p0 ^^^ (p0 ^^^ p1 ^^^ p2 ^^^ p3 ^^^ f (p0 ^^^ p1)) := by
 have e2 : p0 ^^^ (p0 ^^^ p1 ^^^ p2 ^^^ p3 ^^^ f (p0 ^^^ p1)) = p1 ^^^ (p2 ^^^ (p3 ^^^ (f p0 ^^^ f p1))) := by
  rw [hf]; simp only [BitVec.xor_assoc, cI]
 have e3 : p1 ^^^ p3 = b ^^^ d := by
  rw [h1, h3]; simp only [BitVec.xor_assoc, BitVec.xor_comm, cE, cI, BitVec.xor_self, BitVec.xor_zero]
 have e4 : p1 ^^^ (p2 ^^^ (p3 ^^^ (f p0 ^^^ f p1))) = (b ^^^ d) ^^^ (p2 ^^^ (f p0 ^^^ f p1)) := by
  rw [← e3]; simp only [BitVec.xor_assoc, BitVec.xor_comm, cE]
 rw [e2, e4, h0, h1, h2]
 unfold riF
 simp only [hf, z_xor]
 simp only [BitVec.xor_assoc, BitVec.xor_comm, cE, cI]
theorem aDC (a b c d : BitVec 8) : [riF aF a b c d, riF aF b c d a, riF aF c d a b, riF aF d a b c] = ap4 (mcF aF) (pcF aF a b c d) := by
 show _ = mcF aF _ _ _ _
 generalize h0 : a ^^^ aF (aF (a ^^^ c)) = p0
 generalize h1 : b ^^^ aF (aF (b ^^^ d)) = p1
 generalize h2 : c ^^^ aF (aF (a ^^^ c)) = p2
 generalize h3 : d ^^^ aF (aF (b ^^^ d)) = p3
 have c1 : c ^^^ a = a ^^^ c := BitVec.xor_comm c a
 have c2 : d ^^^ b = b ^^^ d := BitVec.xor_comm d b
 have r1 : p0 ^^^ p1 ^^^ p2 ^^^ p3 = p1 ^^^ p2 ^^^ p3 ^^^ p0 := by simp only [BitVec.xor_assoc, BitVec.xor_comm, cE]
 have r2 : p0 ^^^ p1 ^^^ p2 ^^^ p3 = p2 ^^^ p3 ^^^ p0 ^^^ p1 := by simp only [BitVec.xor_assoc, BitVec.xor_comm, cE]
 have r3 : p0 ^^^ p1 ^^^ p2 ^^^ p3 = p3 ^^^ p0 ^^^ p1 ^^^ p2 := by simp only [BitVec.xor_assoc, BitVec.xor_comm, cE]
 refine aJg ?_ ?_ ?_ ?_
 ·exact xA aF cJ a b c d p0 p1 p2 p3 h0.symm h1.symm h2.symm h3.symm
 ·rw [r1]
  exact xA aF cJ b c d a p1 p2 p3 p0 h1.symm (by rw [c1]; exact h2.symm) h3.symm (by rw [c1]; exact h0.symm)
 ·rw [r2]
  exact xA aF cJ c d a b p2 p3 p0 p1 (by rw [c1]; exact h2.symm) (by rw [c2]; exact h3.symm) (by rw [c1]; exact h0.symm) (by rw [c2]; exact h1.symm)
 ·rw [r3]
  exact xA aF cJ d a b c p3 p0 p1 p2 (by rw [c2]; exact h3.symm) h0.symm (by rw [c2]; exact h1.symm) h2.symm
theorem aF0 (s : B8) (hs : s.length = 16) : sB s = pF s := by
 obtain ⟨a0, a1, a2, a3, a4, a5, a6, a7, a8, a9, a10, a11, a12, a13, a14, a15, rfl⟩ := aD1 s hs
 unfold pF
 rw [aA2, zV]
 simp only [pcF, List.cons_append, List.nil_append]
 rw [nR]
 exact four (aDC a0 a1 a2 a3) (aDC a4 a5 a6 a7) (aDC a8 a9 a10 a11) (aDC a12 a13 a14 a15)
theorem aDJ (ks : List B8) (b : B8) (hb : b.length = 16) : ∀ k, jK unboxL ks b k = wN ks b k
 |0 => rfl
 |k + 1 => by
  have hl := dC ks b hb k
  have hx : (eM (wN ks b k) (ks.getD (14 - k) [])).length = 16 := by rw [aJ, hl]
  have e : aAT ks k (wN ks b k) = aIP ks k (wN ks b k) := by
   unfold aAT aIP
   rw [aF0 _ hx]
  rw [jK, wN, aDJ ks b hb k, e]
  exact aHR _ (by rw [tS, hl])
theorem aJ0 (ks : List B8) (b : B8) (hb : b.length = 16) : aH5 unboxL ks b = iH ks b := by
 unfold aH5 iH
 rw [aDJ ks b hb]
def yY (t : B8) : Nat → B8
 |0 => List.replicate 16 0
 |i + 1 => if 0 < i then ((yY t i).set i (t.getD i 0 <<< 1)).set i (((yY t i).set i (t.getD i 0 <<< 1)).getD i 0 ||| t.getD (i - 1) 0 >>> 7) else (yY t i).set i (t.getD i 0 <<< 1)
theorem lS (t : B8) : ∀ n, (yY t n).length = 16
 |0 => rfl
 |n + 1 => by
  rw [yY]
  split
  ·rw [List.length_set, List.length_set, lS t n]
  ·rw [List.length_set, lS t n]
def rtwF (t : B8) : B8 := if t.getD 15 0 >>> 7 = 1 then (yY t 16).set 0 ((yY t 16).getD 0 0 ^^^ 135) else yY t 16
theorem aF2 (t : B8) (ht : t.length = 16) : AC Tryz.prog 148 [.u8s t] 0 [] ⟨.u8s (rtwF t), [], []⟩ := by
 refine cN tab mix Tryz.func148 rfl (by kernel_rfl) (by kernel_rfl) (by kernel_rfl) {} ?_
 refine stN ?_
 refine aX Nat (fun n => [(1, .ptr 0 []), (2, .ptr 1 []), (3, .ptr 2 []), (4, .i64 n)]) (fun n => [(0, some ⟨t16, .u8s t, true⟩), (1, some ⟨t16, .u8s (List.replicate 16 0), true⟩), (2, some ⟨t16, .u8s (yY t n), true⟩)]) 3
  (fun n => n ≤ 16) (fun n => 16 - n) 0 [0, 1, 2] (Nat.zero_le _) ?_ ?_
 ·exact aN rfl ⟨rfl, rfl, rfl, rfl, trivial⟩ ⟨⟨_, rfl, rfl, rfl, id⟩, ⟨_, rfl, rfl, rfl, id⟩, ⟨_, rfl, rfl, rfl, id⟩, trivial⟩ rfl
 intro n hn
 have hl := lS t n
 refine stN ?_
 refine Br.split (fun h => ?_) (fun h => ?_)
 ·have hn : n < 16 := by have := of_decide_eq_true h; omega
  have e : yY t (n + 1) = if 0 < n then ((yY t n).set n (t.getD n 0 <<< 1)).set n (((yY t n).set n (t.getD n 0 <<< 1)).getD n 0 ||| t.getD (n - 1) 0 >>> 7) else (yY t n).set n (t.getD n 0 <<< 1) := rfl
  refine stN ?_
  refine Br.split (fun h => ?_) (fun h => ?_)
  ·have h0 : 0 < n := by have := of_decide_eq_true h; omega
   rw [if_pos h0] at e
   have q1 : (n : Int) - 1 = ((n - 1 : Nat) : Int) := by omega
   repeat first | rw [q1] | rw [Int.toNat_natCast (n - 1)] | refine st1 ?_
   refine bQ (n + 1) [0, 1, 2] ?_ ?_ ?_
   ·omega
   ·omega
   ·exact aN rfl ⟨rfl, rfl, rfl, rfl, trivial⟩ ⟨⟨_, rfl, rfl, rfl, id⟩, ⟨_, rfl, rfl, rfl, id⟩, ⟨_, rfl, rfl, congrArg D.u8s e.symm, id⟩, trivial⟩ rfl
  ·have h0 : ¬ 0 < n := by have := of_decide_eq_false h; omega
   rw [if_neg h0] at e
   refine stN ?_
   refine bQ (n + 1) [0, 1, 2] ?_ ?_ ?_
   ·omega
   ·omega
   ·exact aN rfl ⟨rfl, rfl, rfl, rfl, trivial⟩ ⟨⟨_, rfl, rfl, rfl, id⟩, ⟨_, rfl, rfl, rfl, id⟩, ⟨_, rfl, rfl, congrArg D.u8s e.symm, id⟩, trivial⟩ rfl
 ·have hn : n = 16 := by have := of_decide_eq_false h; omega
  subst hn
  have hF : rtwF t = if t.getD 15 0 >>> 7 = 1 then (yY t 16).set 0 ((yY t 16).getD 0 0 ^^^ 135) else yY t 16 := rfl
  generalize rtwF t = x at hF ⊢
  generalize yY t 16 = a at hF hl ⊢
  refine stN ?_
  refine Br.split (fun h => ?_) (fun h => ?_)
  ·have h : t.getD 15 0 >>> 7 = 1 := by simpa using h
   rw [if_pos h] at hF
   refine stN ?_
   refine gC [] (congrArg D.u8s hF.symm) rfl trivial rfl
  ·have h : ¬ t.getD 15 0 >>> 7 = 1 := by simpa using h
   rw [if_neg h] at hF
   refine stN ?_
   refine gC [] (congrArg D.u8s hF.symm) rfl trivial rfl
theorem aF3 (a0 a1 a2 a3 a4 a5 a6 a7 a8 a9 a10 a11 a12 a13 a14 a15 : BitVec 8) : yY [a0, a1, a2, a3, a4, a5, a6, a7, a8, a9, a10, a11, a12, a13, a14, a15] 16 =
  [a0 <<< 1, a1 <<< 1 ||| a0 >>> 7, a2 <<< 1 ||| a1 >>> 7, a3 <<< 1 ||| a2 >>> 7, a4 <<< 1 ||| a3 >>> 7, a5 <<< 1 ||| a4 >>> 7, a6 <<< 1 ||| a5 >>> 7, a7 <<< 1 ||| a6 >>> 7, a8 <<< 1 ||| a7 >>> 7, a9 <<< 1 ||| a8 >>> 7, a10 <<< 1 ||| a9 >>> 7,
   a11 <<< 1 ||| a10 >>> 7, a12 <<< 1 ||| a11 >>> 7, a13 <<< 1 ||| a12 >>> 7, a14 <<< 1 ||| a13 >>> 7, a15 <<< 1 ||| a14 >>> 7] := by
 kernel_rfl
theorem aGz (a0 a1 a2 a3 a4 a5 a6 a7 a8 a9 a10 a11 a12 a13 a14 a15 : BitVec 8) : twI [a0, a1, a2, a3, a4, a5, a6, a7, a8, a9, a10, a11, a12, a13, a14, a15] 16 =
  ([a0 <<< 1 ||| 0, a1 <<< 1 ||| a0 >>> 7, a2 <<< 1 ||| a1 >>> 7, a3 <<< 1 ||| a2 >>> 7, a4 <<< 1 ||| a3 >>> 7, a5 <<< 1 ||| a4 >>> 7, a6 <<< 1 ||| a5 >>> 7, a7 <<< 1 ||| a6 >>> 7, a8 <<< 1 ||| a7 >>> 7, a9 <<< 1 ||| a8 >>> 7, a10 <<< 1 ||| a9 >>> 7,
   a11 <<< 1 ||| a10 >>> 7, a12 <<< 1 ||| a11 >>> 7, a13 <<< 1 ||| a12 >>> 7, a14 <<< 1 ||| a13 >>> 7, a15 <<< 1 ||| a14 >>> 7], a15 >>> 7) := by
 kernel_rfl
theorem aIt (a : BitVec 8) : a >>> 7 = 0 ∨ a >>> 7 = 1 := oE (p := fun a => a >>> 7 = 0 ∨ a >>> 7 = 1) (by decide +kernel) a
theorem rtw_eq (t : B8) (ht : t.length = 16) : rtwF t = twF t := by
 obtain ⟨a0, a1, a2, a3, a4, a5, a6, a7, a8, a9, a10, a11, a12, a13, a14, a15, rfl⟩ := aD1 t ht
 unfold rtwF twF
 rw [aF3, aGz]
 show (if a15 >>> 7 = 1 then _ else _) = (if a15 >>> 7 = 0 then _ else _)
 have z : ∀ x : BitVec 8, x ||| (0 : BitVec 8) = x := fun x => BitVec.or_zero
 rcases aIt a15 with h | h
 ·rw [if_neg (by rw [h]; decide), if_pos h, z]
 ·rw [if_pos h, if_neg (by rw [h]; decide), z]
theorem gZ (s k : B8) (hs : s.length = 16) (hk : k.length = 16) : AC Tryz.prog 140 [.u8s s, .u8s k] 0 [] ⟨.u8s (eM s k), [], []⟩ := by
 refine cN tab mix Tryz.func140 rfl (by kernel_rfl) (by kernel_rfl) (by kernel_rfl) {} ?_
 refine stN ?_
 refine aX Nat (fun n => [(2, .ptr 0 []), (3, .ptr 1 []), (4, .ptr 2 []), (5, .i64 n)]) (fun n => [(0, some ⟨t16, .u8s (aEq s k n), true⟩), (1, some ⟨t16, .u8s k, true⟩), (2, some ⟨t16, .u8s (List.replicate 16 0), true⟩)]) 3
  (fun n => n ≤ 16) (fun n => 16 - n) 0 [0, 1, 2] (Nat.zero_le _) ?_ ?_
 ·exact aN rfl ⟨rfl, rfl, rfl, rfl, trivial⟩ ⟨⟨_, rfl, rfl, rfl, id⟩, ⟨_, rfl, rfl, rfl, id⟩, ⟨_, rfl, rfl, rfl, id⟩, trivial⟩ rfl
 intro n hn
 have hl := dX s k n
 rw [hs] at hl
 refine stN ?_
 refine Br.split (fun h => ?_) (fun h => ?_)
 ·have hn : n < 16 := by have := of_decide_eq_true h; omega
  refine stN ?_
  refine bQ (n + 1) [0, 1, 2] ?_ ?_ ?_
  ·omega
  ·omega
  ·exact aN rfl ⟨rfl, rfl, rfl, rfl, trivial⟩ ⟨⟨_, rfl, rfl, rfl, id⟩, ⟨_, rfl, rfl, rfl, id⟩, ⟨_, rfl, rfl, rfl, id⟩, trivial⟩ rfl
 ·have hn : n = 16 := by have := of_decide_eq_false h; omega
  subst hn
  refine stN ?_
  refine gC [] rfl rfl trivial rfl
abbrev tR : Ty := .st [t15, t15]
abbrev xR (k1 k2 : List B8) : D := .node [.node (k1.map .u8s), .node (k2.map .u8s)]
abbrev rK : Ty := .arr 32 t16
theorem bV (s : Nat → Nat) (k1 k2 : List B8) : (xR k1 k2).ren s = xR k1 k2 :=
 congr (congrArg (fun a b => D.node [D.node a, D.node b]) (aC s k1)) (aC s k2)
theorem t9 {k1 k2 : List B8} (h1 : Rows 15 16 k1) (h2 : Rows 15 16 k2) : aH tR (xR k1 k2) := ⟨h1.ty, h2.ty, trivial⟩
def tkI (T : B8) : Nat → List B8
 |0 => (List.replicate 32 (List.replicate 16 0)).set 0 T
 |n + 1 => (tkI T n).set (n + 1) (twF ((tkI T n).getD n []))
theorem aFD (T : B8) : ∀ n, n < 32 → (tkI T n).length = 32 ∧ ∀ k, k ≤ n → (tkI T n).getD k [] = twN T k
 |0, _ => ⟨rfl, fun k hk => by rw [show k = 0 by omega]; rfl⟩
 |n + 1, h => by
  obtain ⟨h1, h2⟩ := aFD T n (by omega)
  refine ⟨by rw [tkI, List.length_set, h1], fun k hk => ?_⟩
  rw [tkI, bW (by omega)]
  split
  ·next e => rw [e, h2 n (Nat.le_refl _)]; rfl
  ·exact h2 k (by omega)
theorem qF (T : B8) (hT : T.length = 16) : ∀ n, n < 32 → Rows 32 16 (tkI T n)
 |0, _ => Rows.set (Rows.rep 32 16) 0 hT
 |n + 1, h => by
  have ih := qF T hT n (by omega)
  rw [tkI]
  exact Rows.set ih _ (by rw [fV, ih.get (by omega)])
theorem vT (k1 k2 : List B8) (s : BitVec 64) (T : B8) (h1 : Rows 15 16 k1) (h2 : Rows 15 16 k2) (hT : T = fS k2 (nI s 8) 14) :
  AC Tryz.prog 139 [xR k1 k2, .u64 s] 0 gB ⟨.node ((tkI T 31).map .u8s), [], []⟩ := by
 have htl : T.length = 16 := by rw [hT]; exact bN k2 _ (iQ s 8) 14
 have hre := aCK k2 (nI s 8) (iQ s 8) h2
 rw [xD, ← hT] at hre
 refine cN tab mix Tryz.func139 rfl (by kernel_rfl) (by kernel_rfl) (by kernel_rfl) {} ?_
 refine EffG.mk (And.intro (t9 h1 h2) ?_)
 refine stN ?_
 refine aX Nat (fun n => [(1, .u64 s), (2, .ptr 0 []), (4, .ptr 1 []), (5, .ptr 2 []), (6, .i64 n)])
  (fun n => [(0, some ⟨tR, xR k1 k2, true⟩), (1, some ⟨rK, .node (List.replicate 32 (.u8s (List.replicate 16 0))), true⟩), (2, some ⟨t16, .u8s (nI s n), true⟩), (gid 0, some ⟨jG, .u8s boxL, false⟩)]) 3
  (fun n => n ≤ 8) (fun n => 8 - n) 0 [0, 1, 2] (Nat.zero_le _) ?_ ?_
 ·exact aN rfl ⟨rfl, rfl, rfl, rfl, rfl, trivial⟩ ⟨⟨_, rfl, rfl, (bV _ k1 k2).symm, id⟩, ⟨_, rfl, rfl, rfl, id⟩, ⟨_, rfl, rfl, rfl, id⟩, ⟨_, rfl, rfl, rfl, id⟩, trivial⟩ rfl
 intro n hn'
 have hnl := iQ s n
 refine stN ?_
 refine Br.split (fun h => ?_) (fun h => ?_)
 ·have hn' : n < 8 := by have := of_decide_eq_true h; omega
  have e : (BitVec.ofInt 64 (8 * (n : Int))).toNat = 8 * n := by
   rw [show (8 * (n : Int)) = ((8 * n : Nat) : Int) by omega, BitVec.ofInt_natCast, BitVec.toNat_ofNat]; omega
  repeat first | rw [e] | refine st1 ?_
  refine bQ (n + 1) [0, 1, 2] ?_ ?_ ?_
  ·omega
  ·omega
  ·exact aN rfl ⟨rfl, rfl, rfl, rfl, rfl, trivial⟩ ⟨⟨_, rfl, rfl, (bV _ k1 k2).symm, id⟩, ⟨_, rfl, rfl, rfl, id⟩, ⟨_, rfl, rfl, rfl, id⟩, ⟨_, rfl, rfl, rfl, id⟩, trivial⟩ rfl
 ·have hn8 : n = 8 := by have := of_decide_eq_false h; omega
  subst hn8
  generalize nI s 8 = y at hre hnl ⊢
  refine stN ?_
  refine bF hre [] rfl (congrArg (fun d => [D.node d, D.u8s y]) (aC _ k2).symm) ⟨⟨_, rfl, rfl, rfl, id⟩, trivial⟩ rfl rfl ?_
  refine stN ?_
  refine aX Nat (fun n => [(4, .ptr 1 []), (7, .ptr 3 []), (8, .i64 (n + 1 : Nat))])
   (fun n => [(1, some ⟨rK, .node (List.replicate 32 (.u8s (List.replicate 16 0))), true⟩), (3, some ⟨rK, .node ((tkI T n).map .u8s), true⟩), (gid 0, some ⟨jG, .u8s boxL, false⟩)]) 4
   (fun n => n < 32) (fun n => 32 - n) 0 [0, 1, 2, 3] (by decide) ?_ ?_
  ·exact aN rfl ⟨rfl, rfl, rfl, trivial⟩ ⟨⟨_, rfl, rfl, rfl, id⟩, ⟨_, rfl, rfl, rfl, id⟩, ⟨_, rfl, rfl, rfl, id⟩, trivial⟩ rfl
  intro n hn
  have hr := qF T htl n hn
  have hg : ((tkI T n).getD n []).length = 16 := hr.get hn
  have hrl : ((tkI T n).map D.u8s).length = 32 := by rw [List.length_map, hr.1]
  refine stN ?_
  refine Br.split (fun h => ?_) (fun h => ?_)
  ·have hn : n + 1 < 32 := by have := of_decide_eq_true h; omega
   have hne : tkI T (n + 1) = (tkI T n).set (n + 1) (twF ((tkI T n).getD n [])) := rfl
   have hrt := aF2 _ hg
   rw [rtw_eq _ hg] at hrt
   have hwl := fV ((tkI T n).getD n [])
   rw [hg] at hwl
   have q1 : ((n + 1 : Nat) : Int) - 1 = (n : Int) := by omega
   repeat first | rw [q1] | (rw [bL (l := tkI T n)]; rotate_left; (rw [hr.1]; omega)) | rw [Int.toNat_natCast n] | refine st1 ?_
   refine bF hrt [] rfl rfl trivial rfl rfl ?_
   refine stN ?_
   refine bQ (n + 1) [0, 1, 2, 3] ?_ ?_ ?_
   ·omega
   ·omega
   ·refine aN rfl ⟨rfl, rfl, rfl, trivial⟩ ⟨⟨_, rfl, rfl, rfl, id⟩, ⟨_, rfl, rfl, ?_, id⟩, ⟨_, rfl, rfl, rfl, id⟩, trivial⟩ rfl
    rw [aD, hne, List.map_set]
    rfl
  ·have hn : n = 31 := by have := of_decide_eq_false h; omega
   subst hn
   generalize tkI T 31 = ks at hr ⊢
   refine stN ?_
   refine EffG.mk (And.intro ⟨trivial, hr.ty⟩ ?_)
   refine stN ?_
   refine gC [] (aD _ ks).symm rfl ⟨⟨_, rfl, rfl, rfl, id⟩, trivial⟩ rfl
def rI (g : Nat → B8) : Nat → List B8
 |0 => []
 |n + 1 => rI g n ++ [g n]
theorem dO (g : Nat → B8) : ∀ n, (rI g n).length = n
 |0 => rfl
 |n + 1 => by rw [rI, List.length_append, dO g n]; rfl
theorem sO {g : Nat → B8} {m : Nat} : ∀ {n : Nat}, (∀ k, k < n → (g k).length = m) → ∀ r ∈ rI g n, r.length = m
 |0, _, r, hr => by cases hr
 |n + 1, h, r, hr => by
  rw [rI, List.mem_append] at hr
  rcases hr with hr | hr
  ·exact sO (fun k hk => h k (by omega)) r hr
  ·rw [List.mem_singleton.1 hr]; exact h n (by omega)
theorem xK {g : Nat → B8} : ∀ {n k : Nat}, k < n → (rI g n).getD k [] = g k
 |n + 1, k, hk => by
  rw [rI]
  by_cases h : k < n
  ·rw [List.getD_eq_getElem?_getD, List.getElem?_append_left (by rw [dO]; exact h), ← List.getD_eq_getElem?_getD]
   exact xK h
  ·rw [show k = n by omega, List.getD_eq_getElem?_getD, List.getElem?_append_right (by rw [dO]; exact Nat.le_refl _), dO, Nat.sub_self]; rfl
theorem aDK {g h : Nat → B8} : ∀ {n : Nat}, (∀ k, k < n → g k = h k) → rI g n = rI h n
 |0, _ => rfl
 |n + 1, e => by rw [rI, rI, aDK (fun k hk => e k (by omega)), e n (by omega)]
theorem aJL {m : Nat} {ws : List B8} (h : ∀ r ∈ ws, r.length = m) : aH (.row (.arr m .cell)) (.node (ws.map .u8s)) := by
 refine aY.2 fun d hd => ?_
 obtain ⟨k, hk, rfl⟩ := List.mem_map.1 hd
 exact h k hk
def yZ (b : B8) (o i : Nat) : Nat → B8
 |0 => List.replicate 16 0
 |j + 1 => (yZ b o i j).set j (b.getD (o + (16 * i + j)) 0)
theorem dD (b : B8) (o i : Nat) : ∀ j, (yZ b o i j).length = 16
 |0 => rfl
 |j + 1 => by rw [yZ, List.length_set, dD b o i j]
theorem aBP (b : B8) (o i : Nat) : ∀ n x, n ≤ 16 → x < n → (yZ b o i n).getD x 0 = b.getD (o + (16 * i + x)) 0
 |0, x, _, hx => by omega
 |n + 1, x, hn, hx => by
  rw [yZ, bW (by rw [dD]; omega)]
  split
  ·next h => subst h; rfl
  ·exact aBP b o i n x (by omega) (by omega)
theorem lE (b : B8) (o i : Nat) (h : o + 16 * i + 16 ≤ b.length) : yZ b o i 16 = eB b (o + 16 * i) := by
 have hl := dE h
 refine yD (by rw [dD, hl]) fun x hx => ?_
 rw [dD] at hx
 rw [aBP b o i 16 x (Nat.le_refl _) hx, aEk _ _ _ hx, Nat.add_assoc]
theorem pD {ws : List B8} {x : B8} {n : Nat} (h : ws.length = n) : List.take n (List.drop 0 (ws.map D.u8s)) ++ List.take 1 (List.drop 0 [D.u8s x]) = (ws ++ [x]).map D.u8s := by
 rw [List.drop_zero, List.drop_zero, List.take_of_length_le (by rw [List.length_map, h]; exact Nat.le_refl _), List.map_append]
 rfl
def nD (b : Nat) : Nat → Nat → D
 |_, 0 => .nilslice
 |c, n + 1 => .slice b [] 0 (c * (n + 1)) none
def nM (b : Nat) (T : Ty) (d : D) : Nat → Mem
 |0 => []
 |_ + 1 => [(b, some ⟨T, d, true⟩)]
set_option maxHeartbeats 400000 in
theorem aF4 (k1 k2 : List B8) (h1 : Rows 15 16 k1) (h2 : Rows 15 16 k2) (bs : B8) (o L : Nat) (cap : Option Nat) (s : BitVec 64) (hL : L = 512) (ho : o + 512 ≤ bs.length) (hbl : bs.length < 9223372036854775808) (G : B8) (hG : G = fZ (fun k => wR (oJ k1) (twN (fS k2 (nI s 8) 14) k) (eB bs (o + 16 * k))) 32) :
  AC Tryz.prog 125 [xR k1 k2, .u64 s, .slice 0 [] o L cap, .bool false] 1 ((0, some ⟨.row .cell, .u8s bs, false⟩) :: gB)
   ⟨.slice 1 [] 0 512 none, [], [(.row .cell, .u8s G)]⟩ := by
 subst hL
 have htw := vT k1 k2 s _ h1 h2 rfl
 have hel := bN k2 _ (iQ s 8) 14
 obtain ⟨_, hat⟩ := aFD (fS k2 (nI s 8) 14) 31 (by decide)
 have htr := qF _ hel 31 (by decide)
 generalize tkI (fS k2 (nI s 8) 14) 31 = tk at htw hat htr
 obtain ⟨l1, hl1⟩ : ∃ l1 : Nat → B8, l1 = fun k => eM (eB bs (o + 16 * k)) (tk.getD k []) := ⟨_, rfl⟩
 have hl1l : ∀ k, k < 32 → (l1 k).length = 16 := fun k hk => by rw [hl1]; show (eM _ _).length = 16; rw [aJ, dE (by omega)]
 obtain ⟨g2, hg2⟩ : ∃ g2 : Nat → B8, g2 = fun k => eM (oJ k1 (l1 k)) (tk.getD k []) := ⟨_, rfl⟩
 have hg2l : ∀ k, k < 32 → (g2 k).length = 16 := fun k hk => by rw [hg2]; show (eM _ _).length = 16; rw [aJ]; exact bN k1 _ (hl1l k hk) 14
 have hGe : G = fZ g2 32 := by
  rw [hG]
  refine iY fun k hk => ?_
  rw [hg2, hl1]
  show wR _ _ _ = eM (oJ k1 (eM (eB bs (o + 16 * k)) (tk.getD k []))) (tk.getD k [])
  rw [hat k (by omega)]
  rfl
 clear hG hat
 clear hel
 have hrl : ∀ k, k < 32 → (tk.getD k []).length = 16 := fun k hk => htr.get hk
 have htl : (tk.map D.u8s).length = 32 := by rw [List.length_map, htr.1]
 refine cN tab mix Tryz.func125 rfl (by kernel_rfl) (by kernel_rfl) (by kernel_rfl) {} ?_
 refine EffG.mk (And.intro (t9 h1 h2) ?_)
 refine stN ?_
 refine aBW htw [] (.node (tk.map .u8s)) [] rfl (congrArg (fun d => [d, D.u64 s]) (bV _ k1 k2).symm) ⟨⟨_, rfl, rfl, rfl, id⟩, trivial⟩ rfl rfl (aD _ tk) rfl ?_
 refine stN ?_
 refine EffG.mk (And.intro ⟨trivial, htr.ty⟩ ?_)
 refine stN ?_
 refine aX Nat (fun i => [(2, .slice 0 [] o 512 cap), (3, .bool false), (4, .ptr 1 []), (9, .ptr 2 []), (10, nD 3 1 i), (11, .i64 i)]) (fun i => [(0, some ⟨.row .cell, .u8s bs, false⟩), (1, some ⟨tR, xR k1 k2, true⟩), (2, some ⟨rK, .node (tk.map .u8s), true⟩), (gid 0, some ⟨jG, .u8s boxL, false⟩)] ++ nM 3 (.row t16) (.node ((rI l1 i).map .u8s)) i) 4
  (fun i => i ≤ 32) (fun i => 32 - i) 0 [0, 1, 2] (Nat.zero_le _) ?_ ?_
 ·exact aN rfl ⟨rfl, rfl, rfl, rfl, rfl, rfl, trivial⟩ ⟨⟨_, rfl, rfl, rfl, id⟩, ⟨_, rfl, rfl, (bV _ k1 k2).symm, id⟩, ⟨_, rfl, rfl, (aD _ tk).symm, id⟩, ⟨_, rfl, rfl, rfl, id⟩, trivial⟩ rfl
 intro i hi
 rcases i with _ | n
 ·refine stN ?_
  refine Br.split (fun h => ?_) (fun h => ?_)
  ·have hi : 0 < 32 := by have := of_decide_eq_true h; omega
   have hlen := hl1l 0 hi
   have htk := hrl 0 hi
   have hle : l1 0 = eM (yZ bs o 0 16) (tk.getD 0 []) := by rw [hl1, lE bs o 0 (by omega)]
   refine stN ?_
   refine aX Nat (fun j => [(2, .slice 0 [] o 512 cap), (3, .bool false), (4, .ptr 1 []), (9, .ptr 2 []), (10, .nilslice), (11, .i64 (0 : Nat)), (12, .ptr 4 []), (13, .i64 j)]) (fun j => [(0, some ⟨.row .cell, .u8s bs, false⟩), (1, some ⟨tR, xR k1 k2, true⟩), (2, some ⟨rK, .node (tk.map .u8s), true⟩), (gid 0, some ⟨jG, .u8s boxL, false⟩), (4, some ⟨t16, .u8s (yZ bs o 0 j), true⟩)]) 5
    (fun j => j ≤ 16) (fun j => 16 - j) 0 [0, 1, 2, 3, 4] (Nat.zero_le _) ?_ ?_
   ·exact aN rfl ⟨rfl, rfl, rfl, rfl, rfl, rfl, rfl, rfl, trivial⟩ ⟨⟨_, rfl, rfl, rfl, id⟩, ⟨_, rfl, rfl, (bV _ k1 k2).symm, id⟩, ⟨_, rfl, rfl, (aD _ tk).symm, id⟩, ⟨_, rfl, rfl, rfl, id⟩, ⟨_, rfl, rfl, rfl, id⟩, trivial⟩ rfl
   intro j hj
   have hcl := dD bs o 0 j
   refine stN ?_
   refine Br.split (fun h => ?_) (fun h => ?_)
   ·have hj : j < 16 := by have := of_decide_eq_true h; omega
    refine stN ?_
    refine bQ (j + 1) [0, 1, 2, 3, 4] ?_ ?_ ?_
    ·omega
    ·omega
    ·exact aN rfl ⟨rfl, rfl, rfl, rfl, rfl, rfl, rfl, rfl, trivial⟩ ⟨⟨_, rfl, rfl, rfl, id⟩, ⟨_, rfl, rfl, (bV _ k1 k2).symm, id⟩, ⟨_, rfl, rfl, (aD _ tk).symm, id⟩, ⟨_, rfl, rfl, rfl, id⟩, ⟨_, rfl, rfl, rfl, id⟩, trivial⟩ rfl
   ·have hj : j = 16 := by have := of_decide_eq_false h; omega
    subst hj
    have hw := gZ _ _ hcl htk
    rw [← hle] at hw
    generalize yZ bs o 0 16 = c at hcl hw ⊢
    repeat first | (rw [bL (l := tk)]; rotate_left; (rw [htr.1]; omega)) | refine st1 ?_
    refine bF hw [] rfl rfl trivial rfl rfl ?_
    refine stN ?_
    refine ⟨1, ?_⟩
    refine stN ?_
    refine bQ 1 [0, 1, 2, 6] ?_ ?_ ?_
    ·omega
    ·omega
    ·refine aN rfl ⟨rfl, rfl, rfl, rfl, rfl, rfl, trivial⟩ ⟨⟨_, rfl, rfl, rfl, id⟩, ⟨_, rfl, rfl, (bV _ k1 k2).symm, id⟩, ⟨_, rfl, rfl, (aD _ tk).symm, id⟩, ⟨_, rfl, rfl, rfl, id⟩, ⟨_, rfl, rfl, rfl, id⟩, trivial⟩ rfl
  ·cases h
 ·refine stN ?_
  refine Br.split (fun h => ?_) (fun h => ?_)
  ·have hi : (n + 1) < 32 := by have := of_decide_eq_true h; omega
   have hrn := dO l1 (n + 1)
   have hlen := hl1l (n + 1) hi
   have htk := hrl (n + 1) hi
   have hle : l1 (n + 1) = eM (yZ bs o (n + 1) 16) (tk.getD (n + 1) []) := by rw [hl1, lE bs o (n + 1) (by omega)]
   refine stN ?_
   refine aX Nat (fun j => [(2, .slice 0 [] o 512 cap), (3, .bool false), (4, .ptr 1 []), (9, .ptr 2 []), (10, .slice 3 [] 0 (1 * (n + 1)) none), (11, .i64 ((n + 1) : Nat)), (12, .ptr 4 []), (13, .i64 j)]) (fun j => [(0, some ⟨.row .cell, .u8s bs, false⟩), (1, some ⟨tR, xR k1 k2, true⟩), (2, some ⟨rK, .node (tk.map .u8s), true⟩), (gid 0, some ⟨jG, .u8s boxL, false⟩), (3, some ⟨.row t16, .node ((rI l1 (n + 1)).map .u8s), true⟩), (4, some ⟨t16, .u8s (yZ bs o (n + 1) j), true⟩)]) 5
    (fun j => j ≤ 16) (fun j => 16 - j) 0 [0, 1, 2, 3, 4] (Nat.zero_le _) ?_ ?_
   ·exact aN rfl ⟨rfl, rfl, rfl, rfl, rfl, rfl, rfl, rfl, trivial⟩ ⟨⟨_, rfl, rfl, rfl, id⟩, ⟨_, rfl, rfl, (bV _ k1 k2).symm, id⟩, ⟨_, rfl, rfl, (aD _ tk).symm, id⟩, ⟨_, rfl, rfl, rfl, id⟩, ⟨_, rfl, rfl, (aD _ (rI l1 (n + 1))).symm, id⟩, ⟨_, rfl, rfl, rfl, id⟩, trivial⟩ rfl
   intro j hj
   have hcl := dD bs o (n + 1) j
   refine stN ?_
   refine Br.split (fun h => ?_) (fun h => ?_)
   ·have hj : j < 16 := by have := of_decide_eq_true h; omega
    refine stN ?_
    refine bQ (j + 1) [0, 1, 2, 3, 4] ?_ ?_ ?_
    ·omega
    ·omega
    ·exact aN rfl ⟨rfl, rfl, rfl, rfl, rfl, rfl, rfl, rfl, trivial⟩ ⟨⟨_, rfl, rfl, rfl, id⟩, ⟨_, rfl, rfl, (bV _ k1 k2).symm, id⟩, ⟨_, rfl, rfl, (aD _ tk).symm, id⟩, ⟨_, rfl, rfl, rfl, id⟩, ⟨_, rfl, rfl, (aD _ (rI l1 (n + 1))).symm, id⟩, ⟨_, rfl, rfl, rfl, id⟩, trivial⟩ rfl
   ·have hj : j = 16 := by have := of_decide_eq_false h; omega
    subst hj
    have hw := gZ _ _ hcl htk
    rw [← hle] at hw
    generalize yZ bs o (n + 1) 16 = c at hcl hw ⊢
    repeat first | (rw [bL (l := tk)]; rotate_left; (rw [htr.1]; omega)) | refine st1 ?_
    refine bF hw [] rfl rfl trivial rfl rfl ?_
    refine stN ?_
    refine ⟨0, ?_⟩
    refine EffG.mk (And.intro (And.intro ?_ (And.intro ?_ (Eq.mpr (congrArg (fun l => aH (.row t16) (D.node l)) (pD (n := 1 * (n + 1)) (by rw [hrn]; omega))) (aJL (sO (g := l1) (n := n + 2) (fun k hk => hl1l k (by omega))))))) ?_)
    ·focus ((repeat' (first | exact trivial | refine And.intro ?_ ?_)) <;> (first | omega | (simp only [aH, okP, xT, D.ren, D.isCell, Option.getD, List.length_set, List.length_take, List.length_drop, List.length_append, List.length_replicate, List.length_map, List.length_cons, List.length_nil, Option.map] <;> omega) | with_reducible assumption | with_reducible rfl | decide); done)
    ·focus ((repeat' (first | exact trivial | refine And.intro ?_ ?_)) <;> (first | omega | (simp only [aH, okP, xT, D.ren, D.isCell, Option.getD, List.length_set, List.length_take, List.length_drop, List.length_append, List.length_replicate, List.length_map, List.length_cons, List.length_nil, Option.map] <;> omega) | with_reducible assumption | with_reducible rfl | decide); done)
    refine stN ?_
    refine bQ (n + 2) [0, 1, 2, 6] ?_ ?_ ?_
    ·omega
    ·omega
    ·refine aN rfl ⟨rfl, rfl, rfl, rfl, cF rfl ?_ rfl, rfl, trivial⟩ ⟨⟨_, rfl, rfl, rfl, id⟩, ⟨_, rfl, rfl, (bV _ k1 k2).symm, id⟩, ⟨_, rfl, rfl, (aD _ tk).symm, id⟩, ⟨_, rfl, rfl, rfl, id⟩, ⟨_, rfl, rfl, ?_, id⟩, trivial⟩ rfl
     ·show 1 * (n + 1) + 1 = 1 * (n + 1 + 1)
      omega
     ·rw [aD]
      exact congrArg D.node (pD (by rw [hrn]; omega))
  ·have hn : n = 31 := by have := of_decide_eq_false h; omega
   subst hn
   have hls := dO l1 32
   have hlm : ∀ k, k < 32 → (rI l1 32).getD k [] = l1 k := fun k hk => xK hk
   generalize rI l1 (31 + 1) = ls at hls hlm ⊢
   refine stN ?_
   refine Br.no rfl ?_
   refine stN ?_
   refine aX Nat (fun i => [(3, .bool false), (4, .ptr 1 []), (9, .ptr 2 []), (10, .slice 3 [] 0 (1 * (31 + 1)) none), (14, nD 4 16 i), (15, .i64 i)]) (fun i => [(0, some ⟨.row .cell, .u8s bs, false⟩), (1, some ⟨tR, xR k1 k2, true⟩), (2, some ⟨rK, .node (tk.map .u8s), true⟩), (3, some ⟨.row t16, .node (ls.map .u8s), true⟩), (gid 0, some ⟨jG, .u8s boxL, false⟩)] ++ nM 4 (.row .cell) (.u8s (fZ g2 i)) i) 5
    (fun i => i ≤ 32) (fun i => 32 - i) 0 [0, 1, 2, 3] (Nat.zero_le _) ?_ ?_
   ·exact aN rfl ⟨rfl, rfl, rfl, rfl, rfl, rfl, trivial⟩ ⟨⟨_, rfl, rfl, rfl, id⟩, ⟨_, rfl, rfl, (bV _ k1 k2).symm, id⟩, ⟨_, rfl, rfl, (aD _ tk).symm, id⟩, ⟨_, rfl, rfl, (aD _ ls).symm, id⟩, ⟨_, rfl, rfl, rfl, id⟩, trivial⟩ rfl
   intro i hi
   rcases i with _ | n
   ·refine stN ?_
    refine Br.split (fun h => ?_) (fun h => ?_)
    ·have hi : 0 < 32 := by have := of_decide_eq_true h; omega
     have hlen := hl1l 0 hi
     have htk := hrl 0 hi
     have hg2i := hg2l 0 hi
     have hge : g2 0 = eM (oJ k1 (l1 0)) (tk.getD 0 []) := by rw [hg2]
     have he := aCK k1 (l1 0) hlen h1
     rw [xD, show fS k1 (l1 0) 14 = oJ k1 (l1 0) from rfl] at he
     have hel : (oJ k1 (l1 0)).length = 16 := bN k1 _ hlen 14
     rw [← hlm 0 hi] at hge he hel hlen
     have q0 : 0 + ((0 : Nat) : Int).toNat = 0 := by omega
     repeat first | (rw [bL (l := ls)]; rotate_left; (rw [hls]; omega)) | rw [q0] | refine st1 ?_
     refine Br.yes rfl ?_
     refine stN ?_
     generalize ls.getD 0 [] = p at hge he hel hlen ⊢
     refine bF he [] rfl (congrArg (fun d => [D.node d, D.u8s p]) (aC _ k1).symm) ⟨⟨_, rfl, rfl, rfl, id⟩, trivial⟩ rfl rfl ?_
     have hw := gZ _ _ hel htk
     rw [← hge] at hw
     have hOn : fZ g2 1 = [] ++ g2 0 := rfl
     generalize g2 0 = q at hw hg2i hOn
     repeat first | (rw [bL (l := tk)]; rotate_left; (rw [htr.1]; omega)) | refine st1 ?_
     refine bF hw [] rfl rfl trivial rfl rfl ?_
     refine stN ?_
     refine ⟨1, ?_⟩
     refine stN ?_
     refine bQ 1 [0, 1, 2, 3, 6] ?_ ?_ ?_
     ·omega
     ·omega
     ·refine aN rfl ⟨rfl, rfl, rfl, rfl, rfl, rfl, trivial⟩ ⟨⟨_, rfl, rfl, rfl, id⟩, ⟨_, rfl, rfl, (bV _ k1 k2).symm, id⟩, ⟨_, rfl, rfl, (aD _ tk).symm, id⟩, ⟨_, rfl, rfl, (aD _ ls).symm, id⟩, ⟨_, rfl, rfl, rfl, id⟩, ⟨_, rfl, rfl, congrArg D.u8s ?_, id⟩, trivial⟩ rfl
      rw [hOn]
      show [] ++ List.take 16 (List.drop 0 q) = [] ++ q
      rw [List.drop_zero, List.take_of_length_le (by omega)]
    ·cases h
   ·refine stN ?_
    refine Br.split (fun h => ?_) (fun h => ?_)
    ·have hi : (n + 1) < 32 := by have := of_decide_eq_true h; omega
     have hlen := hl1l (n + 1) hi
     have htk := hrl (n + 1) hi
     have hg2i := hg2l (n + 1) hi
     have hge : g2 (n + 1) = eM (oJ k1 (l1 (n + 1))) (tk.getD (n + 1) []) := by rw [hg2]
     have he := aCK k1 (l1 (n + 1)) hlen h1
     rw [xD, show fS k1 (l1 (n + 1)) 14 = oJ k1 (l1 (n + 1)) from rfl] at he
     have hel : (oJ k1 (l1 (n + 1))).length = 16 := bN k1 _ hlen 14
     rw [← hlm (n + 1) hi] at hge he hel hlen
     have hO := eY (B := g2) (n := n + 1) (fun k hk => hg2l k (by omega))
     have hOn : fZ g2 (n + 1 + 1) = fZ g2 (n + 1) ++ g2 (n + 1) := rfl
     generalize fZ g2 (n + 1) = O at hO hOn ⊢
     have q0 : 0 + (((n + 1) : Nat) : Int).toNat = (n + 1) := by omega
     repeat first | (rw [bL (l := ls)]; rotate_left; (rw [hls]; omega)) | rw [q0] | refine st1 ?_
     refine Br.yes rfl ?_
     refine stN ?_
     generalize ls.getD (n + 1) [] = p at hge he hel hlen ⊢
     refine bF he [] rfl (congrArg (fun d => [D.node d, D.u8s p]) (aC _ k1).symm) ⟨⟨_, rfl, rfl, rfl, id⟩, trivial⟩ rfl rfl ?_
     have hw := gZ _ _ hel htk
     rw [← hge] at hw
     generalize g2 (n + 1) = q at hw hg2i hOn ⊢
     repeat first | (rw [bL (l := tk)]; rotate_left; (rw [htr.1]; omega)) | refine st1 ?_
     refine bF hw [] rfl rfl trivial rfl rfl ?_
     refine stN ?_
     refine ⟨0, ?_⟩
     refine stN ?_
     refine bQ (n + 2) [0, 1, 2, 3, 6] ?_ ?_ ?_
     ·omega
     ·omega
     ·refine aN rfl ⟨rfl, rfl, rfl, rfl, cF rfl ?_ rfl, rfl, trivial⟩ ⟨⟨_, rfl, rfl, rfl, id⟩, ⟨_, rfl, rfl, (bV _ k1 k2).symm, id⟩, ⟨_, rfl, rfl, (aD _ tk).symm, id⟩, ⟨_, rfl, rfl, (aD _ ls).symm, id⟩, ⟨_, rfl, rfl, rfl, id⟩, ⟨_, rfl, rfl, congrArg D.u8s ?_, id⟩, trivial⟩ rfl
      ·show 16 * (n + 1) + 16 = 16 * (n + 1 + 1)
       omega
      ·rw [hOn]
       show List.take (16 * (n + 1)) (List.drop 0 O) ++ List.take 16 (List.drop 0 q) = O ++ q
       rw [List.drop_zero, List.drop_zero, List.take_of_length_le (by omega), List.take_of_length_le (by omega)]
    ·have hn : n = 31 := by have := of_decide_eq_false h; omega
     subst hn
     have hG' : fZ g2 (31 + 1) = G := hGe.symm
     generalize fZ g2 (31 + 1) = O at hG' ⊢
     subst hG'
     refine stN ?_
     refine gC [0, 4] rfl rfl ⟨⟨_, rfl, rfl, rfl, id⟩, ⟨_, rfl, rfl, rfl, id⟩, ⟨_, rfl, rfl, rfl, id⟩, trivial⟩ rfl
theorem aEI (ks ws : List B8) (h1 : Rows 15 16 ks) (hws : ws.length = 32) (hwl : ∀ r ∈ ws, r.length = 16) :
  AC Tryz.prog 141 [.node (ks.map .u8s), .slice 0 [] 0 32 none] 1 ((0, some ⟨.row t16, .node (ws.map .u8s), true⟩) :: gB)
   ⟨.slice 1 [] 0 32 none, [], [(.row t16, .node ((rI (fun k => iH ks (ws.getD k [])) 32).map .u8s))]⟩ := by
 have hwk : ∀ k, k < 32 → (ws.getD k []).length = 16 := fun k hk => hwl _ (oA (by omega))
 have hd : ∀ k, k < 32 → AC Tryz.prog 150 [.node (ks.map .u8s), .u8s unboxL, .u8s (ws.getD k [])] 0 [] ⟨.u8s (iH ks (ws.getD k [])), [], []⟩ := fun k hk => by
  have := aJ1 ks unboxL _ iZ (hwk k hk) h1
  rwa [aJ0 ks _ (hwk k hk)] at this
 have hun := iZ
 have hbk := aH7
 generalize unboxL = un at hd hun hbk
 obtain ⟨g, hg⟩ : ∃ g : Nat → B8, g = fun k => iH ks (ws.getD k []) := ⟨_, rfl⟩
 have hgl : ∀ k, k < 32 → (g k).length = 16 := fun k hk => by rw [hg]; show (iH _ _).length = 16; rw [iH, aJ, dC ks _ (hwk k hk)]
 have hd : ∀ k, k < 32 → AC Tryz.prog 150 [.node (ks.map .u8s), .u8s un, .u8s (ws.getD k [])] 0 [] ⟨.u8s (g k), [], []⟩ := fun k hk => by rw [hg]; exact hd k hk
 rw [← hg]
 clear hg
 obtain ⟨R, hR⟩ : ∃ R, rI g 32 = R := ⟨_, rfl⟩
 rw [hR]
 refine cN tab mix Tryz.func141 rfl (by kernel_rfl) (by kernel_rfl) (by kernel_rfl) {} ?_
 refine EffG.mk (And.intro h1.ty ?_)
 refine stN ?_
 refine bF hbk [] rfl rfl ⟨⟨_, rfl, rfl, rfl, id⟩, trivial⟩ rfl rfl ?_
 refine stN ?_
 refine aX Nat (fun i => [(1, .slice 0 [] 0 32 none), (2, .ptr 1 []), (5, .ptr 2 []), (6, nD 3 1 i), (7, .i64 i)])
  (fun i => [(0, some ⟨.row t16, .node (ws.map .u8s), true⟩), (1, some ⟨t15, .node (ks.map .u8s), true⟩), (2, some ⟨jG, .u8s un, true⟩), (gid 0, some ⟨jG, .u8s boxL, false⟩)] ++ nM 3 (.row t16) (.node ((rI g i).map .u8s)) i) 4
  (fun i => i ≤ 32) (fun i => 32 - i) 0 [0, 1, 2] (Nat.zero_le _) ?_ ?_
 ·exact aN rfl ⟨rfl, rfl, rfl, rfl, rfl, trivial⟩ ⟨⟨_, rfl, rfl, (aD _ ws).symm, id⟩, ⟨_, rfl, rfl, (aD _ ks).symm, id⟩, ⟨_, rfl, rfl, rfl, id⟩, ⟨_, rfl, rfl, rfl, id⟩, trivial⟩ rfl
 intro i hi
 rcases i with _ | n
 ·refine stN ?_
  refine Br.split (fun h => ?_) (fun h => ?_)
  ·have hi : 0 < 32 := by have := of_decide_eq_true h; omega
   have hlen := hgl 0 hi
   have hw := hd 0 hi
   have hwi := hwk 0 hi
   have q0 : 0 + ((0 : Nat) : Int).toNat = 0 := by omega
   repeat first | (rw [bL (l := ws)]; rotate_left; (rw [hws]; omega)) | rw [q0] | refine st1 ?_
   generalize ws.getD 0 [] = p at hw hwi ⊢
   refine bF hw [] rfl (congrArg (fun d => [D.node d, D.u8s un, D.u8s p]) (aC _ ks).symm) trivial rfl rfl ?_
   refine stN ?_
   refine ⟨1, ?_⟩
   refine stN ?_
   refine bQ 1 [0, 1, 2, 5] ?_ ?_ ?_
   ·omega
   ·omega
   ·exact aN rfl ⟨rfl, rfl, rfl, rfl, rfl, trivial⟩ ⟨⟨_, rfl, rfl, (aD _ ws).symm, id⟩, ⟨_, rfl, rfl, (aD _ ks).symm, id⟩, ⟨_, rfl, rfl, rfl, id⟩, ⟨_, rfl, rfl, rfl, id⟩, ⟨_, rfl, rfl, rfl, id⟩, trivial⟩ rfl
  ·cases h
 ·refine stN ?_
  refine Br.split (fun h => ?_) (fun h => ?_)
  ·have hi : (n + 1) < 32 := by have := of_decide_eq_true h; omega
   have hrn := dO g (n + 1)
   have hlen := hgl (n + 1) hi
   have hw := hd (n + 1) hi
   have hwi := hwk (n + 1) hi
   have q0 : 0 + (((n + 1) : Nat) : Int).toNat = (n + 1) := by omega
   repeat first | (rw [bL (l := ws)]; rotate_left; (rw [hws]; omega)) | rw [q0] | refine st1 ?_
   generalize ws.getD (n + 1) [] = p at hw hwi ⊢
   refine bF hw [] rfl (congrArg (fun d => [D.node d, D.u8s un, D.u8s p]) (aC _ ks).symm) trivial rfl rfl ?_
   refine stN ?_
   refine ⟨0, ?_⟩
   refine EffG.mk (And.intro (And.intro ?_ (And.intro ?_ (Eq.mpr (congrArg (fun l => aH (.row t16) (D.node l)) (pD (n := 1 * (n + 1)) (by rw [hrn]; omega))) (aJL (sO (g := g) (n := n + 2) (fun k hk => hgl k (by omega))))))) ?_)
   ·focus ((repeat' (first | exact trivial | refine And.intro ?_ ?_)) <;> (first | omega | (simp only [aH, okP, xT, D.ren, D.isCell, Option.getD, List.length_set, List.length_take, List.length_drop, List.length_append, List.length_replicate, List.length_map, List.length_cons, List.length_nil, Option.map] <;> omega) | with_reducible assumption | with_reducible rfl | decide); done)
   ·focus ((repeat' (first | exact trivial | refine And.intro ?_ ?_)) <;> (first | omega | (simp only [aH, okP, xT, D.ren, D.isCell, Option.getD, List.length_set, List.length_take, List.length_drop, List.length_append, List.length_replicate, List.length_map, List.length_cons, List.length_nil, Option.map] <;> omega) | with_reducible assumption | with_reducible rfl | decide); done)
   refine stN ?_
   refine bQ (n + 2) [0, 1, 2, 5] ?_ ?_ ?_
   ·omega
   ·omega
   ·refine aN rfl ⟨rfl, rfl, rfl, cF rfl ?_ rfl, rfl, trivial⟩ ⟨⟨_, rfl, rfl, (aD _ ws).symm, id⟩, ⟨_, rfl, rfl, (aD _ ks).symm, id⟩, ⟨_, rfl, rfl, rfl, id⟩, ⟨_, rfl, rfl, rfl, id⟩, ⟨_, rfl, rfl, ?_, id⟩, trivial⟩ rfl
    ·show 1 * (n + 1) + 1 = 1 * (n + 1 + 1)
     omega
    ·rw [aD]
     exact congrArg D.node (pD (by rw [hrn]; omega))
  ·have hn : n = 31 := by have := of_decide_eq_false h; omega
   subst hn
   have e : rI g (31 + 1) = R := hR
   rw [e]
   refine stN ?_
   refine gC [0, 3] rfl rfl ⟨⟨_, rfl, rfl, (aD _ R).symm, id⟩, ⟨_, rfl, rfl, (aD _ ws).symm, id⟩, ⟨_, rfl, rfl, rfl, id⟩, trivial⟩ rfl
set_option maxHeartbeats 400000 in
theorem aF5 (k1 k2 : List B8) (h1 : Rows 15 16 k1) (h2 : Rows 15 16 k2) (bs : B8) (o L : Nat) (cap : Option Nat) (s : BitVec 64) (hL : L = 512) (ho : o + 512 ≤ bs.length) (hbl : bs.length < 9223372036854775808) (G : B8) (hG : G = fZ (fun k => wR (iH k1) (twN (fS k2 (nI s 8) 14) k) (eB bs (o + 16 * k))) 32) :
  AC Tryz.prog 125 [xR k1 k2, .u64 s, .slice 0 [] o L cap, .bool true] 1 ((0, some ⟨.row .cell, .u8s bs, false⟩) :: gB)
   ⟨.slice 1 [] 0 512 none, [], [(.row .cell, .u8s G)]⟩ := by
 subst hL
 have htw := vT k1 k2 s _ h1 h2 rfl
 have hel := bN k2 _ (iQ s 8) 14
 obtain ⟨_, hat⟩ := aFD (fS k2 (nI s 8) 14) 31 (by decide)
 have htr := qF _ hel 31 (by decide)
 generalize tkI (fS k2 (nI s 8) 14) 31 = tk at htw hat htr
 obtain ⟨l1, hl1⟩ : ∃ l1 : Nat → B8, l1 = fun k => eM (eB bs (o + 16 * k)) (tk.getD k []) := ⟨_, rfl⟩
 have hl1l : ∀ k, k < 32 → (l1 k).length = 16 := fun k hk => by rw [hl1]; show (eM _ _).length = 16; rw [aJ, dE (by omega)]
 obtain ⟨g2, hg2⟩ : ∃ g2 : Nat → B8, g2 = fun k => eM (iH k1 (l1 k)) (tk.getD k []) := ⟨_, rfl⟩
 have hg2l : ∀ k, k < 32 → (g2 k).length = 16 := fun k hk => by rw [hg2]; show (eM _ _).length = 16; rw [aJ]; rw [iH, aJ, dC k1 _ (hl1l k hk)]
 have hGe : G = fZ g2 32 := by
  rw [hG]
  refine iY fun k hk => ?_
  rw [hg2, hl1]
  show wR _ _ _ = eM (iH k1 (eM (eB bs (o + 16 * k)) (tk.getD k []))) (tk.getD k [])
  rw [hat k (by omega)]
  rfl
 clear hG hat
 clear hel
 have hrl : ∀ k, k < 32 → (tk.getD k []).length = 16 := fun k hk => htr.get hk
 have htl : (tk.map D.u8s).length = 32 := by rw [List.length_map, htr.1]
 refine cN tab mix Tryz.func125 rfl (by kernel_rfl) (by kernel_rfl) (by kernel_rfl) {} ?_
 refine EffG.mk (And.intro (t9 h1 h2) ?_)
 refine stN ?_
 refine aBW htw [] (.node (tk.map .u8s)) [] rfl (congrArg (fun d => [d, D.u64 s]) (bV _ k1 k2).symm) ⟨⟨_, rfl, rfl, rfl, id⟩, trivial⟩ rfl rfl (aD _ tk) rfl ?_
 refine stN ?_
 refine EffG.mk (And.intro ⟨trivial, htr.ty⟩ ?_)
 refine stN ?_
 refine aX Nat (fun i => [(2, .slice 0 [] o 512 cap), (3, .bool true), (4, .ptr 1 []), (9, .ptr 2 []), (10, nD 3 1 i), (11, .i64 i)]) (fun i => [(0, some ⟨.row .cell, .u8s bs, false⟩), (1, some ⟨tR, xR k1 k2, true⟩), (2, some ⟨rK, .node (tk.map .u8s), true⟩), (gid 0, some ⟨jG, .u8s boxL, false⟩)] ++ nM 3 (.row t16) (.node ((rI l1 i).map .u8s)) i) 4
  (fun i => i ≤ 32) (fun i => 32 - i) 0 [0, 1, 2] (Nat.zero_le _) ?_ ?_
 ·exact aN rfl ⟨rfl, rfl, rfl, rfl, rfl, rfl, trivial⟩ ⟨⟨_, rfl, rfl, rfl, id⟩, ⟨_, rfl, rfl, (bV _ k1 k2).symm, id⟩, ⟨_, rfl, rfl, (aD _ tk).symm, id⟩, ⟨_, rfl, rfl, rfl, id⟩, trivial⟩ rfl
 intro i hi
 rcases i with _ | n
 ·refine stN ?_
  refine Br.split (fun h => ?_) (fun h => ?_)
  ·have hi : 0 < 32 := by have := of_decide_eq_true h; omega
   have hlen := hl1l 0 hi
   have htk := hrl 0 hi
   have hle : l1 0 = eM (yZ bs o 0 16) (tk.getD 0 []) := by rw [hl1, lE bs o 0 (by omega)]
   refine stN ?_
   refine aX Nat (fun j => [(2, .slice 0 [] o 512 cap), (3, .bool true), (4, .ptr 1 []), (9, .ptr 2 []), (10, .nilslice), (11, .i64 (0 : Nat)), (12, .ptr 4 []), (13, .i64 j)]) (fun j => [(0, some ⟨.row .cell, .u8s bs, false⟩), (1, some ⟨tR, xR k1 k2, true⟩), (2, some ⟨rK, .node (tk.map .u8s), true⟩), (gid 0, some ⟨jG, .u8s boxL, false⟩), (4, some ⟨t16, .u8s (yZ bs o 0 j), true⟩)]) 5
    (fun j => j ≤ 16) (fun j => 16 - j) 0 [0, 1, 2, 3, 4] (Nat.zero_le _) ?_ ?_
   ·exact aN rfl ⟨rfl, rfl, rfl, rfl, rfl, rfl, rfl, rfl, trivial⟩ ⟨⟨_, rfl, rfl, rfl, id⟩, ⟨_, rfl, rfl, (bV _ k1 k2).symm, id⟩, ⟨_, rfl, rfl, (aD _ tk).symm, id⟩, ⟨_, rfl, rfl, rfl, id⟩, ⟨_, rfl, rfl, rfl, id⟩, trivial⟩ rfl
   intro j hj
   have hcl := dD bs o 0 j
   refine stN ?_
   refine Br.split (fun h => ?_) (fun h => ?_)
   ·have hj : j < 16 := by have := of_decide_eq_true h; omega
    refine stN ?_
    refine bQ (j + 1) [0, 1, 2, 3, 4] ?_ ?_ ?_
    ·omega
    ·omega
    ·exact aN rfl ⟨rfl, rfl, rfl, rfl, rfl, rfl, rfl, rfl, trivial⟩ ⟨⟨_, rfl, rfl, rfl, id⟩, ⟨_, rfl, rfl, (bV _ k1 k2).symm, id⟩, ⟨_, rfl, rfl, (aD _ tk).symm, id⟩, ⟨_, rfl, rfl, rfl, id⟩, ⟨_, rfl, rfl, rfl, id⟩, trivial⟩ rfl
   ·have hj : j = 16 := by have := of_decide_eq_false h; omega
    subst hj
    have hw := gZ _ _ hcl htk
    rw [← hle] at hw
    generalize yZ bs o 0 16 = c at hcl hw ⊢
    repeat first | (rw [bL (l := tk)]; rotate_left; (rw [htr.1]; omega)) | refine st1 ?_
    refine bF hw [] rfl rfl trivial rfl rfl ?_
    refine stN ?_
    refine ⟨1, ?_⟩
    refine stN ?_
    refine bQ 1 [0, 1, 2, 6] ?_ ?_ ?_
    ·omega
    ·omega
    ·refine aN rfl ⟨rfl, rfl, rfl, rfl, rfl, rfl, trivial⟩ ⟨⟨_, rfl, rfl, rfl, id⟩, ⟨_, rfl, rfl, (bV _ k1 k2).symm, id⟩, ⟨_, rfl, rfl, (aD _ tk).symm, id⟩, ⟨_, rfl, rfl, rfl, id⟩, ⟨_, rfl, rfl, rfl, id⟩, trivial⟩ rfl
  ·cases h
 ·refine stN ?_
  refine Br.split (fun h => ?_) (fun h => ?_)
  ·have hi : (n + 1) < 32 := by have := of_decide_eq_true h; omega
   have hrn := dO l1 (n + 1)
   have hlen := hl1l (n + 1) hi
   have htk := hrl (n + 1) hi
   have hle : l1 (n + 1) = eM (yZ bs o (n + 1) 16) (tk.getD (n + 1) []) := by rw [hl1, lE bs o (n + 1) (by omega)]
   refine stN ?_
   refine aX Nat (fun j => [(2, .slice 0 [] o 512 cap), (3, .bool true), (4, .ptr 1 []), (9, .ptr 2 []), (10, .slice 3 [] 0 (1 * (n + 1)) none), (11, .i64 ((n + 1) : Nat)), (12, .ptr 4 []), (13, .i64 j)]) (fun j => [(0, some ⟨.row .cell, .u8s bs, false⟩), (1, some ⟨tR, xR k1 k2, true⟩), (2, some ⟨rK, .node (tk.map .u8s), true⟩), (gid 0, some ⟨jG, .u8s boxL, false⟩), (3, some ⟨.row t16, .node ((rI l1 (n + 1)).map .u8s), true⟩), (4, some ⟨t16, .u8s (yZ bs o (n + 1) j), true⟩)]) 5
    (fun j => j ≤ 16) (fun j => 16 - j) 0 [0, 1, 2, 3, 4] (Nat.zero_le _) ?_ ?_
   ·exact aN rfl ⟨rfl, rfl, rfl, rfl, rfl, rfl, rfl, rfl, trivial⟩ ⟨⟨_, rfl, rfl, rfl, id⟩, ⟨_, rfl, rfl, (bV _ k1 k2).symm, id⟩, ⟨_, rfl, rfl, (aD _ tk).symm, id⟩, ⟨_, rfl, rfl, rfl, id⟩, ⟨_, rfl, rfl, (aD _ (rI l1 (n + 1))).symm, id⟩, ⟨_, rfl, rfl, rfl, id⟩, trivial⟩ rfl
   intro j hj
   have hcl := dD bs o (n + 1) j
   refine stN ?_
   refine Br.split (fun h => ?_) (fun h => ?_)
   ·have hj : j < 16 := by have := of_decide_eq_true h; omega
    refine stN ?_
    refine bQ (j + 1) [0, 1, 2, 3, 4] ?_ ?_ ?_
    ·omega
    ·omega
    ·exact aN rfl ⟨rfl, rfl, rfl, rfl, rfl, rfl, rfl, rfl, trivial⟩ ⟨⟨_, rfl, rfl, rfl, id⟩, ⟨_, rfl, rfl, (bV _ k1 k2).symm, id⟩, ⟨_, rfl, rfl, (aD _ tk).symm, id⟩, ⟨_, rfl, rfl, rfl, id⟩, ⟨_, rfl, rfl, (aD _ (rI l1 (n + 1))).symm, id⟩, ⟨_, rfl, rfl, rfl, id⟩, trivial⟩ rfl
   ·have hj : j = 16 := by have := of_decide_eq_false h; omega
    subst hj
    have hw := gZ _ _ hcl htk
    rw [← hle] at hw
    generalize yZ bs o (n + 1) 16 = c at hcl hw ⊢
    repeat first | (rw [bL (l := tk)]; rotate_left; (rw [htr.1]; omega)) | refine st1 ?_
    refine bF hw [] rfl rfl trivial rfl rfl ?_
    refine stN ?_
    refine ⟨0, ?_⟩
    refine EffG.mk (And.intro (And.intro ?_ (And.intro ?_ (Eq.mpr (congrArg (fun l => aH (.row t16) (D.node l)) (pD (n := 1 * (n + 1)) (by rw [hrn]; omega))) (aJL (sO (g := l1) (n := n + 2) (fun k hk => hl1l k (by omega))))))) ?_)
    ·focus ((repeat' (first | exact trivial | refine And.intro ?_ ?_)) <;> (first | omega | (simp only [aH, okP, xT, D.ren, D.isCell, Option.getD, List.length_set, List.length_take, List.length_drop, List.length_append, List.length_replicate, List.length_map, List.length_cons, List.length_nil, Option.map] <;> omega) | with_reducible assumption | with_reducible rfl | decide); done)
    ·focus ((repeat' (first | exact trivial | refine And.intro ?_ ?_)) <;> (first | omega | (simp only [aH, okP, xT, D.ren, D.isCell, Option.getD, List.length_set, List.length_take, List.length_drop, List.length_append, List.length_replicate, List.length_map, List.length_cons, List.length_nil, Option.map] <;> omega) | with_reducible assumption | with_reducible rfl | decide); done)
    refine stN ?_
    refine bQ (n + 2) [0, 1, 2, 6] ?_ ?_ ?_
    ·omega
    ·omega
    ·refine aN rfl ⟨rfl, rfl, rfl, rfl, cF rfl ?_ rfl, rfl, trivial⟩ ⟨⟨_, rfl, rfl, rfl, id⟩, ⟨_, rfl, rfl, (bV _ k1 k2).symm, id⟩, ⟨_, rfl, rfl, (aD _ tk).symm, id⟩, ⟨_, rfl, rfl, rfl, id⟩, ⟨_, rfl, rfl, ?_, id⟩, trivial⟩ rfl
     ·show 1 * (n + 1) + 1 = 1 * (n + 1 + 1)
      omega
     ·rw [aD]
      exact congrArg D.node (pD (by rw [hrn]; omega))
  ·have hn : n = 31 := by have := of_decide_eq_false h; omega
   subst hn
   have hls := dO l1 32
   have hlm : ∀ k, k < 32 → (rI l1 32).getD k [] = l1 k := fun k hk => xK hk
   have hb := aEI k1 (rI l1 32) h1 hls (sO hl1l)
   have hdl : ∀ k, k < 32 → (iH k1 (l1 k)).length = 16 := fun k hk => by rw [iH, aJ, dC k1 _ (hl1l k hk)]
   rw [show rI (fun k => iH k1 ((rI l1 32).getD k [])) 32 = rI (fun k => iH k1 (l1 k)) 32 from aDK (fun k hk => by rw [hlm k hk])] at hb
   have hds := dO (fun k => iH k1 (l1 k)) 32
   have hdm : ∀ k, k < 32 → (rI (fun k => iH k1 (l1 k)) 32).getD k [] = iH k1 (l1 k) := fun k hk => xK hk
   generalize rI (fun k => iH k1 (l1 k)) 32 = ds at hb hds hdm
   generalize rI l1 (31 + 1) = ls at hb
   refine stN ?_
   refine Br.yes rfl ?_
   refine stN ?_
   refine aBW hb [3] (.slice 4 [] 0 32 none) [(4, some ⟨.row t16, .node (ds.map .u8s), true⟩)] rfl (congrArg (fun d => [D.node d, D.slice 3 [] 0 32 none]) (aC _ k1).symm) ⟨⟨_, rfl, rfl, (aD _ ls).symm, id⟩, ⟨_, rfl, rfl, rfl, id⟩, trivial⟩ rfl rfl rfl (congrArg (fun d => ([(4, some ⟨.row t16, d, true⟩)] : Mem)) (aD _ ds)) ?_
   refine stN ?_
   refine aX Nat (fun i => [(3, .bool true), (4, .ptr 1 []), (9, .ptr 2 []), (10, .slice 3 [] 0 32 none), (14, nD 4 16 i), (15, .i64 i)]) (fun i => [(0, some ⟨.row .cell, .u8s bs, false⟩), (1, some ⟨tR, xR k1 k2, true⟩), (2, some ⟨rK, .node (tk.map .u8s), true⟩), (3, some ⟨.row t16, .node (ds.map .u8s), true⟩), (gid 0, some ⟨jG, .u8s boxL, false⟩)] ++ nM 4 (.row .cell) (.u8s (fZ g2 i)) i) 5
    (fun i => i ≤ 32) (fun i => 32 - i) 0 [0, 1, 2, 4] (Nat.zero_le _) ?_ ?_
   ·exact aN rfl ⟨rfl, rfl, rfl, rfl, rfl, rfl, trivial⟩ ⟨⟨_, rfl, rfl, rfl, id⟩, ⟨_, rfl, rfl, (bV _ k1 k2).symm, id⟩, ⟨_, rfl, rfl, (aD _ tk).symm, id⟩, ⟨_, rfl, rfl, (aD _ ds).symm, id⟩, ⟨_, rfl, rfl, rfl, id⟩, trivial⟩ rfl
   intro i hi
   rcases i with _ | n
   ·refine stN ?_
    refine Br.split (fun h => ?_) (fun h => ?_)
    ·have hi : 0 < 32 := by have := of_decide_eq_true h; omega
     have hlen := hl1l 0 hi
     have htk := hrl 0 hi
     have hg2i := hg2l 0 hi
     have hge : g2 0 = eM (iH k1 (l1 0)) (tk.getD 0 []) := by rw [hg2]
     have hel := hdl 0 hi
     rw [← hdm 0 hi] at hge hel
     have q0 : 0 + ((0 : Nat) : Int).toNat = 0 := by omega
     repeat first | (rw [bL (l := ds)]; rotate_left; (rw [hds]; omega)) | rw [q0] | refine st1 ?_
     refine Br.no rfl ?_
     have hw := gZ _ _ hel htk
     rw [← hge] at hw
     have hOn : fZ g2 1 = [] ++ g2 0 := rfl
     generalize g2 0 = q at hw hg2i hOn
     repeat first | (rw [bL (l := tk)]; rotate_left; (rw [htr.1]; omega)) | refine st1 ?_
     refine bF hw [] rfl rfl trivial rfl rfl ?_
     refine stN ?_
     refine ⟨1, ?_⟩
     refine stN ?_
     refine bQ 1 [0, 1, 2, 3, 6] ?_ ?_ ?_
     ·omega
     ·omega
     ·refine aN rfl ⟨rfl, rfl, rfl, rfl, rfl, rfl, trivial⟩ ⟨⟨_, rfl, rfl, rfl, id⟩, ⟨_, rfl, rfl, (bV _ k1 k2).symm, id⟩, ⟨_, rfl, rfl, (aD _ tk).symm, id⟩, ⟨_, rfl, rfl, (aD _ ds).symm, id⟩, ⟨_, rfl, rfl, rfl, id⟩, ⟨_, rfl, rfl, congrArg D.u8s ?_, id⟩, trivial⟩ rfl
      rw [hOn]
      show [] ++ List.take 16 (List.drop 0 q) = [] ++ q
      rw [List.drop_zero, List.take_of_length_le (by omega)]
    ·cases h
   ·refine stN ?_
    refine Br.split (fun h => ?_) (fun h => ?_)
    ·have hi : (n + 1) < 32 := by have := of_decide_eq_true h; omega
     have hlen := hl1l (n + 1) hi
     have htk := hrl (n + 1) hi
     have hg2i := hg2l (n + 1) hi
     have hge : g2 (n + 1) = eM (iH k1 (l1 (n + 1))) (tk.getD (n + 1) []) := by rw [hg2]
     have hel := hdl (n + 1) hi
     rw [← hdm (n + 1) hi] at hge hel
     have hO := eY (B := g2) (n := n + 1) (fun k hk => hg2l k (by omega))
     have hOn : fZ g2 (n + 1 + 1) = fZ g2 (n + 1) ++ g2 (n + 1) := rfl
     generalize fZ g2 (n + 1) = O at hO hOn ⊢
     have q0 : 0 + (((n + 1) : Nat) : Int).toNat = (n + 1) := by omega
     repeat first | (rw [bL (l := ds)]; rotate_left; (rw [hds]; omega)) | rw [q0] | refine st1 ?_
     refine Br.no rfl ?_
     have hw := gZ _ _ hel htk
     rw [← hge] at hw
     generalize g2 (n + 1) = q at hw hg2i hOn ⊢
     repeat first | (rw [bL (l := tk)]; rotate_left; (rw [htr.1]; omega)) | refine st1 ?_
     refine bF hw [] rfl rfl trivial rfl rfl ?_
     refine stN ?_
     refine ⟨0, ?_⟩
     refine stN ?_
     refine bQ (n + 2) [0, 1, 2, 3, 6] ?_ ?_ ?_
     ·omega
     ·omega
     ·refine aN rfl ⟨rfl, rfl, rfl, rfl, cF rfl ?_ rfl, rfl, trivial⟩ ⟨⟨_, rfl, rfl, rfl, id⟩, ⟨_, rfl, rfl, (bV _ k1 k2).symm, id⟩, ⟨_, rfl, rfl, (aD _ tk).symm, id⟩, ⟨_, rfl, rfl, (aD _ ds).symm, id⟩, ⟨_, rfl, rfl, rfl, id⟩, ⟨_, rfl, rfl, congrArg D.u8s ?_, id⟩, trivial⟩ rfl
      ·show 16 * (n + 1) + 16 = 16 * (n + 1 + 1)
       omega
      ·rw [hOn]
       show List.take (16 * (n + 1)) (List.drop 0 O) ++ List.take 16 (List.drop 0 q) = O ++ q
       rw [List.drop_zero, List.drop_zero, List.take_of_length_le (by omega), List.take_of_length_le (by omega)]
    ·have hn : n = 31 := by have := of_decide_eq_false h; omega
     subst hn
     have hG' : fZ g2 (31 + 1) = G := hGe.symm
     generalize fZ g2 (31 + 1) = O at hG' ⊢
     subst hG'
     refine stN ?_
     refine gC [0, 4] rfl rfl ⟨⟨_, rfl, rfl, rfl, id⟩, ⟨_, rfl, rfl, rfl, id⟩, ⟨_, rfl, rfl, rfl, id⟩, trivial⟩ rfl
theorem aDT (f : B8 → B8) (k2 : List B8) (bs : B8) (s : BitVec 64) (j : Nat) :
  ovI f k2 bs 0 s (j + 1) = ovI f k2 bs 0 s j ++ fZ (fun k => wR f (twN (fS k2 (nI (s + BitVec.ofNat 64 j) 8) 14) k) (eB bs (0 + 512 * j + 16 * k))) 32 := by
 rw [sU, sU, show 32 * (j + 1) = 32 * j + 32 by omega, aDi]
 refine congrArg (fZ (aGm f k2 bs 0 s) (32 * j) ++ ·) (iY fun k hk => ?_)
 show wR f (twK k2 s (32 * j + k)) (eB bs (0 + 16 * (32 * j + k))) = _
 unfold twK aB7
 rw [show (32 * j + k) / 32 = j by omega, show (32 * j + k) % 32 = k by omega, aIe, show 0 + 16 * (32 * j + k) = 0 + 512 * j + 16 * k by omega]
theorem aJM (a b : B8) (ha : a.length = 32) (hb : b.length = 32) : AC Tryz.prog 43 [.u8s a, .u8s b] 0 gB ⟨xR (bO a) (bO b), [], []⟩ := by
 have n1 := aF7 a ha
 have n2 := aF7 b hb
 rw [aF6 a ha] at n1
 rw [aF6 b hb] at n2
 have h1 := cK a ha
 have h2 := cK b hb
 generalize bO a = k1 at n1 h1 ⊢
 generalize bO b = k2 at n2 h2 ⊢
 refine cN tab mix Tryz.func43 rfl (by kernel_rfl) (by kernel_rfl) (by kernel_rfl) {} ?_
 refine stN ?_
 refine aBW n1 [] (.node (k1.map .u8s)) [] rfl rfl ⟨⟨_, rfl, rfl, rfl, id⟩, trivial⟩ rfl rfl (aD _ k1) rfl ?_
 refine stN ?_
 refine aBW n2 [] (.node (k2.map .u8s)) [] rfl rfl ⟨⟨_, rfl, rfl, rfl, id⟩, trivial⟩ rfl rfl (aD _ k2) rfl ?_
 refine stN ?_
 (refine EffG.mk (And.intro ?_ ?_); focus ((repeat' (first | exact trivial | exact h1.ty | exact h2.ty | refine And.intro ?_ ?_)); done))
 refine EffG.mk (And.intro ⟨trivial, t9 h1 h2⟩ ?_)
 refine stN ?_
 refine gC [] (bV _ k1 k2).symm rfl ⟨⟨_, rfl, rfl, rfl, id⟩, trivial⟩ rfl
section
variable (k1 k2 : List B8) (h1 : Rows 15 16 k1) (h2 : Rows 15 16 k2) (s : BitVec 64) (bs : B8) (cap m : Nat) (hm : bs.length = 512 * (m + 1)) (hm2 : m < 128) (O : B8) (hO : O = ovI (oJ k1) k2 bs 0 s (m + 1))
include k1 k2 h1 h2 s bs cap m hm hm2 O hO
set_option maxHeartbeats 400000 in
theorem aAS :
  AC Tryz.prog 91 [xR k1 k2, .u64 s, .slice 0 [] 0 bs.length (some cap), .bool false] 1 ((0, some ⟨.row .cell, .u8s bs, false⟩) :: gB)
   ⟨.tup [.slice 1 [] 0 (512 * (m + 1)) none, .i64 0], [], [(.row .cell, .u8s O)]⟩ := by
 obtain ⟨V, hV⟩ : ∃ V : Nat → B8, V = fun j => ovI (oJ k1) k2 bs 0 s j := ⟨_, rfl⟩
 obtain ⟨G, hG⟩ : ∃ G : Nat → B8, G = fun j => fZ (fun k => wR (oJ k1) (twN (fS k2 (nI (s + BitVec.ofNat 64 j) 8) 14) k) (eB bs (0 + 512 * j + 16 * k))) 32 := ⟨_, rfl⟩
 have hf : ∀ p : B8, p.length = 16 → (oJ k1 p).length = 16 := fun p hp => bN k1 p hp 14
 have hV0 : V 0 = [] := by rw [hV]; rfl
 have hVs : ∀ j, V (j + 1) = V j ++ G j := fun j => by rw [hV, hG]; exact aDT _ k2 bs s j
 have hVl : ∀ j, j ≤ m + 1 → (V j).length = 512 * j := fun j hj => by rw [hV]; exact eU hf k2 s (m := m + 1) (by omega) j hj
 have hGl : ∀ j, j ≤ m → (G j).length = 512 := fun j hj => by rw [hG]; exact eY (fun k hk => e5 hf (dE (by omega)))
 have hsec : ∀ j, j ≤ m → ∀ c, AC Tryz.prog 125 [xR k1 k2, .u64 (s + BitVec.ofNat 64 j), .slice 0 [] (0 + 512 * j) (512 * j + 512 - 512 * j) c, .bool false] 1 ((0, some ⟨.row .cell, .u8s bs, false⟩) :: gB)
   ⟨.slice 1 [] 0 512 none, [], [(.row .cell, .u8s (G j))]⟩ := fun j hj c => aF4 k1 k2 h1 h2 bs _ _ c _ (by omega) (by omega) (by omega) _ (by rw [hG])
 have hO : O = V (m + 1) := by rw [hO, hV]
 clear hV hG
 subst hO
 have hrem : Int.tmod ((bs.length : Nat) : Int) 512 = 0 := by
  rw [show Int.tmod ((bs.length : Nat) : Int) 512 = ((bs.length % 512 : Nat) : Int) from (Int.ofNat_tmod bs.length 512).symm]
  omega
 refine cN tab mix Tryz.func91 rfl (by kernel_rfl) (by kernel_rfl) (by kernel_rfl) {} ?_
 refine EffG.mk (And.intro (t9 h1 h2) ?_)
 repeat first | rw [hrem] | refine st1 ?_
 refine Br.no rfl ?_
 refine stN ?_
 refine Br.no rfl ?_
 refine stN ?_
 refine Br.no rfl ?_
 refine stN ?_
 refine Br.no (decide_eq_false (by omega)) ?_
 refine stN ?_
 refine aX Nat (fun j => [(1, .u64 s), (2, .slice 0 [] 0 bs.length (some cap)), (3, .bool false), (4, .ptr 1 []), (10, nD 2 512 j), (11, .i64 (512 * j : Nat))])
  (fun j => [(0, some ⟨.row .cell, .u8s bs, false⟩), (1, some ⟨tR, xR k1 k2, true⟩), (gid 0, some ⟨jG, .u8s boxL, false⟩)] ++ nM 2 (.row .cell) (.u8s (V j)) j) 3 (fun j => j ≤ m + 1) (fun j => m + 1 - j) 0 [0, 1] (Nat.zero_le _) ?_ ?_
 ·exact aN rfl ⟨rfl, rfl, rfl, rfl, rfl, rfl, trivial⟩ ⟨⟨_, rfl, rfl, rfl, id⟩, ⟨_, rfl, rfl, (bV _ k1 k2).symm, id⟩, ⟨_, rfl, rfl, rfl, id⟩, trivial⟩ rfl
 intro j hj
 rcases j with _ | n
 ·refine stN ?_
  refine Br.split (fun h => ?_) (fun h => ?_)
  ·have hj : 0 ≤ m := by have := of_decide_eq_true h; omega
   have hs := hsec 0 hj
   have hg := hGl 0 hj
   have hv := hVs 0
   have hvl := hVl 0 (by omega)
   generalize G 0 = q at hs hg hv
   have q1 : Int.tdiv ((512 * 0 : Nat) : Int) 512 = ((0 : Nat) : Int) := by
    rw [show Int.tdiv ((512 * 0 : Nat) : Int) 512 = ((512 * 0 / 512 : Nat) : Int) from (Int.ofNat_tdiv (512 * 0) 512).symm, show 512 * 0 / 512 = 0 by omega]
   have q2 : BitVec.ofInt 64 ((0 : Nat) : Int) = BitVec.ofNat 64 0 := BitVec.ofInt_natCast 64 _
   repeat first | rw [q1] | rw [q2] | refine st1 ?_
   refine bF (hs _) [0] rfl (congrArg (fun d => [d, D.u64 (s + BitVec.ofNat 64 0), D.slice 0 [] (0 + 512 * 0) (512 * 0 + 512 - 512 * 0) _, D.bool false]) (bV _ k1 k2).symm) ⟨⟨_, rfl, rfl, rfl, id⟩, ⟨_, rfl, rfl, rfl, id⟩, trivial⟩ rfl rfl ?_
   refine stN ?_
   refine ⟨1, ?_⟩
   refine stN ?_
   refine bQ 1 [0, 1, 4] ?_ ?_ ?_
   ·omega
   ·omega
   ·refine aN rfl ⟨rfl, rfl, rfl, rfl, rfl, rfl, trivial⟩ ⟨⟨_, rfl, rfl, rfl, id⟩, ⟨_, rfl, rfl, (bV _ k1 k2).symm, id⟩, ⟨_, rfl, rfl, rfl, id⟩, ⟨_, rfl, rfl, congrArg D.u8s ?_, id⟩, trivial⟩ rfl
    rw [hv, hV0]
    show [] ++ List.take 512 (List.drop 0 q) = [] ++ q
    rw [List.drop_zero, List.take_of_length_le (by omega)]
  ·have := of_decide_eq_false h; omega
 ·refine stN ?_
  refine Br.split (fun h => ?_) (fun h => ?_)
  ·have hj : (n + 1) ≤ m := by have := of_decide_eq_true h; omega
   have hs := hsec (n + 1) hj
   have hg := hGl (n + 1) hj
   have hv := hVs (n + 1)
   have hvl := hVl (n + 1) (by omega)
   generalize G (n + 1) = q at hs hg hv
   have q1 : Int.tdiv ((512 * (n + 1) : Nat) : Int) 512 = (((n + 1) : Nat) : Int) := by
    rw [show Int.tdiv ((512 * (n + 1) : Nat) : Int) 512 = ((512 * (n + 1) / 512 : Nat) : Int) from (Int.ofNat_tdiv (512 * (n + 1)) 512).symm, show 512 * (n + 1) / 512 = (n + 1) by omega]
   have q2 : BitVec.ofInt 64 (((n + 1) : Nat) : Int) = BitVec.ofNat 64 (n + 1) := BitVec.ofInt_natCast 64 _
   repeat first | rw [q1] | rw [q2] | refine st1 ?_
   refine bF (hs _) [0] rfl (congrArg (fun d => [d, D.u64 (s + BitVec.ofNat 64 (n + 1)), D.slice 0 [] (0 + 512 * (n + 1)) (512 * (n + 1) + 512 - 512 * (n + 1)) _, D.bool false]) (bV _ k1 k2).symm) ⟨⟨_, rfl, rfl, rfl, id⟩, ⟨_, rfl, rfl, rfl, id⟩, trivial⟩ rfl rfl ?_
   refine stN ?_
   refine ⟨0, ?_⟩
   refine stN ?_
   refine bQ (n + 2) [0, 1, 4] ?_ ?_ ?_
   ·omega
   ·omega
   ·refine aN rfl ⟨rfl, rfl, rfl, rfl, cF rfl ?_ rfl, rfl, trivial⟩ ⟨⟨_, rfl, rfl, rfl, id⟩, ⟨_, rfl, rfl, (bV _ k1 k2).symm, id⟩, ⟨_, rfl, rfl, rfl, id⟩, ⟨_, rfl, rfl, congrArg D.u8s ?_, id⟩, trivial⟩ rfl
    ·show 512 * (n + 1) + 512 = 512 * (n + 1 + 1)
     omega
    ·rw [hv]
     show List.take (512 * (n + 1)) (List.drop 0 (V (n + 1))) ++ List.take 512 (List.drop 0 q) = V (n + 1) ++ q
     rw [List.drop_zero, List.drop_zero, List.take_of_length_le (by omega), List.take_of_length_le (by omega)]
  ·have hn : n = m := by have := of_decide_eq_false h; omega
   subst hn
   refine stN ?_
   refine gC [0, 2] ⟨rfl, rfl⟩ rfl ⟨⟨_, rfl, rfl, rfl, id⟩, ⟨_, rfl, rfl, rfl, id⟩, ⟨_, rfl, rfl, rfl, id⟩, trivial⟩ rfl
theorem w8 :
  AC Tryz.prog 65 [xR k1 k2, .u64 s, .slice 0 [] 0 bs.length (some cap)] 1 ((0, some ⟨.row .cell, .u8s bs, false⟩) :: gB) ⟨.tup [.slice 1 [] 0 (512 * (m + 1)) none, .i64 0], [], [(.row .cell, .u8s O)]⟩ := by
 refine cN tab mix Tryz.func65 rfl (by kernel_rfl) (by kernel_rfl) (by kernel_rfl) {} ?_
 refine EffG.mk (And.intro (t9 h1 h2) ?_)
 refine stN ?_
 refine bF (aAS k1 k2 h1 h2 s bs cap m hm hm2 O hO) [0] rfl (congrArg (fun d => [d, D.u64 s, .slice 0 [] 0 bs.length (some cap), D.bool false]) (bV _ k1 k2).symm) ⟨⟨_, rfl, rfl, rfl, id⟩, ⟨_, rfl, rfl, rfl, id⟩, trivial⟩ rfl rfl ?_
 refine stN ?_
 refine gC [0, 2] ⟨rfl, rfl⟩ rfl ⟨⟨_, rfl, rfl, rfl, id⟩, ⟨_, rfl, rfl, rfl, id⟩, ⟨_, rfl, rfl, rfl, id⟩, trivial⟩ rfl
end
abbrev tRD : Ty := .st [.cell, .cell, .cell, .cell, .cell, .cell, .cell, .cell, .cell]
abbrev jR : Ty := .st [.cell, .cell, .cell]
abbrev bU (most : Nat) (S S2 : B8) (lo : D) (st : Nat) : D := .node [.i64 most, .str S, .str S2, lo, .i64 st, .bool false, .bool false, .i64 0, .bool false]
section
variable {S B : B8} {p : Nat}
include S B p
theorem aHv (h : p + B.length < S.length) :
  List.take p (List.drop 0 S) ++ B ++ List.take (((S.length : Nat) : Int).toNat - ((p : Int) + (B.length : Int)).toNat) (List.drop ((p : Int) + (B.length : Int)).toNat S) = aV S B p := by
 have e : ((p : Int) + (B.length : Int)).toNat = p + B.length := by omega
 rw [mI (by omega), jN, e, Int.toNat_natCast, List.drop_zero, List.take_of_length_le (l := S.drop _) (by rw [List.length_drop]; omega)]
theorem aHu (h : ¬ p + B.length < S.length) (h2 : p ≤ S.length) : List.take p (List.drop 0 S) ++ B ++ [] = aV S B p := by
 unfold aV jN
 rw [List.drop_zero, List.drop_of_length_le (l := S ++ _) (by rw [List.length_append, List.length_replicate]; omega), List.take_append_of_le_length h2]
theorem aHt (h : S.length < p) : List.take p (List.drop 0 (S ++ List.take ((p : Int) - (S.length : Int)).toNat (List.drop 0 (List.replicate ((p : Int) - (S.length : Int)).toNat 0)))) ++ B ++ [] = aV S B p := by
 have e : ((p : Int) - (S.length : Int)).toNat = p - S.length := by omega
 have e2 : List.take (p - S.length) (List.drop 0 (List.replicate (p - S.length) (0 : BitVec 8))) = List.replicate (p - S.length) 0 := by rw [List.drop_zero, List.take_of_length_le (by simp)]
 unfold aV jN
 rw [e, e2, List.drop_zero, List.drop_of_length_le (l := S ++ List.replicate (p + B.length - S.length) 0) (by rw [List.length_append, List.length_replicate]; omega), List.take_append, List.take_append, List.take_of_length_le (l := S) (by omega), List.take_replicate, List.take_replicate]
 have e3 : min (p - S.length) (p - S.length) = min (p - S.length) (p + B.length - S.length) := by omega
 rw [e3]
end
theorem aAf {S : B8} {p : Nat} (h : S.length < p) : (S ++ List.take ((p : Int) - (S.length : Int)).toNat (List.drop 0 (List.replicate ((p : Int) - (S.length : Int)).toNat 0))).length = p := by
 rw [List.length_append, List.length_take, List.length_drop, List.length_replicate]; omega
theorem tA (S B : B8) (p : Nat) (hB : 0 < B.length) (hb : B.length ≤ 16777216) (hp : p ≤ 16777216) (hS : S.length ≤ 16777216) :
  AC Tryz.prog 59 [.str S, .i64 p, .str B] 0 [] ⟨.str (aV S B p), [], []⟩ := by
 by_cases h1 : S.length < p
 ·refine acA tab mix Tryz.func59 {} ?_
  refine gob ?_
  refine brN ?_ (h := decide_eq_false (show ¬ ((p : Int) + (B.length : Int) < (((S ++ List.take ((p : Int) - (S.length : Int)).toNat (List.drop 0 (List.replicate ((p : Int) - (S.length : Int)).toNat 0))).length : Nat) : Int)) from by rw [aAf h1]; omega))
  refine gob ?_
  refine aI [] (h1 := ?_)
  exact congrArg D.str (aHt (S := S) (B := B) (p := p) h1)
 ·by_cases h2 : p + B.length < S.length
  ·refine acA tab mix Tryz.func59 {} ?_
   refine gob ?_
   refine aI [] (h1 := ?_)
   exact congrArg D.str (aHv (S := S) (B := B) (p := p) h2)
  ·refine acA tab mix Tryz.func59 {} ?_
   refine gob ?_
   refine aI [] (h1 := ?_)
   exact congrArg D.str (aHu (S := S) (B := B) (p := p) h2 (by omega))
theorem kR (most : Nat) (S S2 : B8) (lo : D) (st : Nat) (hlo : lo = .nilslice ∨ ∃ n, lo = .slice 0 [] 0 n none) (most' : Nat) (T T2 : B8) (lo' : D) (st' : Nat) (hlo' : lo' = .nilslice ∨ ∃ n, lo' = .slice 1 [] 0 n none) (hst : st' < 1000000) :
  AC Tryz.prog 63 [bU most S S2 lo st, bU most' T T2 lo' st'] 2 [] ⟨.tup [bU most' T T2 lo' (st' + 1), .i64 0], [], []⟩ := by
 rcases hlo with rfl | ⟨n, rfl⟩ <;> rcases hlo' with rfl | ⟨n', rfl⟩
 all_goals
  refine acA tab mix Tryz.func63 {} ?_
  refine gob ?_
  refine aI [0, 1]
theorem aHw (S : B8) (p : Int) : AC Tryz.prog 59 [.str S, .i64 p, .str []] 0 [] ⟨.str S, [], []⟩ := by
 refine acA tab mix Tryz.func59 {} ?_
 refine gob ?_
 refine aI []
def aD2 (S B : B8) (p : Nat) : B8 := if B.length = 0 then S else aV S B p
theorem aD3 (S B : B8) (p : Nat) (hb : B.length ≤ 16777216) (hp : p ≤ 16777216) (hS : S.length ≤ 16777216) :
  AC Tryz.prog 59 [.str S, .i64 p, .str B] 0 [] ⟨.str (aD2 S B p), [], []⟩ := by
 unfold aD2
 by_cases h : B.length = 0
 ·rw [if_pos h]
  obtain rfl := List.length_eq_zero_iff.1 h
  exact aHw S p
 ·rw [if_neg h]
  exact tA S B p (by omega) hb hp hS
section
variable (most : Nat) (S S2 B : B8) (lo : D) (st p : Nat) (hlo : lo = .nilslice ∨ ∃ n, lo = .slice 0 [] 0 n none) (hS : S.length ≤ most)
include most S S2 B lo st p hlo hS
theorem kV (hS2 : S2.length ≤ most) (hm : most ≤ 16777216) (hp : p ≤ S.length) (hf : p + B.length ≤ most) :
  AC Tryz.prog 22 [bU most S S2 lo st, .i64 p, .str B] 1 [] ⟨bU most (aD2 S B p) (aD2 S2 B p) lo st, [], []⟩ := by
 have l1 := aD3 S B p (by omega) (by omega) (by omega)
 have l2 := aD3 S2 B p (by omega) (by omega) (by omega)
 generalize aD2 S B p = T at l1 ⊢
 generalize aD2 S2 B p = T2 at l2 ⊢
 rcases hlo with rfl | ⟨n, rfl⟩
 all_goals
  refine acA tab mix Tryz.func22 {} ?_
  refine gob ?_
  refine aA l1 [] ?_
  refine aA l2 [] ?_
  refine aI [0]
theorem aAN (hm : most ≤ 16777216) (h : S.length < p ∨ most < p + B.length) (hp : p ≤ 16777216) (hb : B.length ≤ 16777216) :
  AC Tryz.prog 22 [bU most S S2 lo st, .i64 p, .str B] 1 [] ⟨bU most S S2 lo st, [], []⟩ := by
 by_cases h1 : S.length < p
 ·rcases hlo with rfl | ⟨n, rfl⟩
  all_goals
   refine acA tab mix Tryz.func22 {} ?_
   refine gob ?_
   refine aI [0]
 ·have h2 : most < p + B.length := by omega
  rcases hlo with rfl | ⟨n, rfl⟩
  all_goals
   refine acA tab mix Tryz.func22 {} ?_
   refine gob ?_
   refine aI [0]
end
theorem aH4 (k : Nat) (hk : k ≤ 16777216) : AC Tryz.prog 13 [.i64 k] 0 [] ⟨bU k [] [] .nilslice 0, [], []⟩ := by
 have e : max 0 (min (k : Int) 16777216) = (k : Int) := by omega
 refine acA tab mix Tryz.func13 {} ?_
 refine gob ?_
 refine aI [] (h1 := ?_)
 exact congrArg (fun v => D.node [.i64 v, .str [], .str [], .nilslice, .i64 0, .bool false, .bool false, .i64 0, .bool false]) e
section
variable (most : Nat)
include most
theorem aFr (B : B8) (hb : B.length ≤ most) : AC Tryz.prog 14 [bU most [] [] .nilslice 0, .str B] 0 [] ⟨bU most B B .nilslice 0, [], []⟩ := by
 refine acA tab mix Tryz.func14 {} ?_
 refine gob ?_
 refine aI []
section
variable (S S2 : B8) (lo : D)
include S S2 lo
theorem aFq (st : Nat) (hlo : lo = .nilslice ∨ ∃ n, lo = .slice 0 [] 0 n none) (hst : st < 1000000) :
  AC Tryz.prog 24 [bU most S S2 lo st] 1 [] ⟨.tup [bU most S S .nilslice (st + 1), .i64 0], [], []⟩ := by
 rcases hlo with rfl | ⟨n, rfl⟩
 ·have h := kR most S S2 .nilslice st (.inl rfl) most S S .nilslice st (.inl rfl) hst
  refine acA tab mix Tryz.func24 {} ?_
  refine gob ?_
  refine aA h [0, 0] ?_
  refine aI [0]
 ·have h := kR most S S2 (.slice 0 [] 0 n none) st (.inr ⟨n, rfl⟩) most S S .nilslice st (.inl rfl) hst
  refine acA tab mix Tryz.func24 {} ?_
  refine gob ?_
  refine aA h [0, 0] ?_
  refine aI [0]
section
variable (st p k : Nat) (hlo : lo = .nilslice ∨ ∃ n, lo = .slice 0 [] 0 n none)
include st p k hlo
theorem aAR (hp : p + k ≤ S.length) (hS : S.length ≤ 16777216) :
  AC Tryz.prog 87 [bU most S S2 lo st, .i64 p, .i64 k] 1 [] ⟨.tup [.str ((S.drop p).take k), .i64 0], [], []⟩ := by
 have e : (S.drop p).take k = (S.drop p).take (((p : Int) + (k : Int)).toNat - p) := by rw [show ((p : Int) + (k : Int)).toNat - p = k by omega]
 rw [e]
 rcases hlo with rfl | ⟨n, rfl⟩
 all_goals
  refine acA tab mix Tryz.func87 {} ?_
  refine gob ?_
  refine aI [0]
theorem vV (hp : S.length < p + k) (hS : S.length ≤ 16777216) (hp2 : p ≤ 4611686018427387904) (hk : k ≤ 4611686018427387904) :
  AC Tryz.prog 87 [bU most S S2 lo st, .i64 p, .i64 k] 1 [] ⟨.tup [.str [], .i64 43], [], []⟩ := by
 by_cases h1 : S.length < p
 ·rcases hlo with rfl | ⟨n, rfl⟩
  all_goals
   refine acA tab mix Tryz.func87 {} ?_
   refine gob ?_
   refine aI [0]
 ·rcases hlo with rfl | ⟨n, rfl⟩
  all_goals
   refine acA tab mix Tryz.func87 {} ?_
   refine gob ?_
   refine aI [0]
end
end
end
structure RLo where
 a : Int
 s : B8
 e : Int
def lI (l : RLo) : D := .node [.i64 l.a, .str l.s, .i64 l.e]
abbrev fL (l : List RLo) : D := .node (l.map lI)
theorem aDI (s : Nat → Nat) : ∀ l : List RLo, D.rens s (l.map lI) = l.map lI
 |[] => rfl
 |a :: l => congrArg (lI a :: ·) (aDI s l)
instance (l : List RLo) : Pure (fL l) := ⟨fun s => congrArg D.node (aDI s l)⟩
theorem lX : ∀ l : List RLo, gV (aH jR) (l.map lI)
 |[] => trivial
 |_ :: l => ⟨⟨rfl, rfl, rfl, trivial⟩, lX l⟩
theorem aFj {s : Nat → Nat} (l m : List RLo) : D.node (l.map lI ++ m.map lI) = D.ren s (fL (l ++ m)) := by
 rw [← List.map_append]; exact (Pure.ren (d := fL (l ++ m)) s).symm
def rlo (S : B8) (s : Int) : RLo := ⟨s, (S.drop s.toNat).take ((min (s + 512) (S.length : Int)).toNat - s.toNat), min (s + 512) (S.length : Int)⟩
def ap1 (z : D) (n : Nat) (L : List D) (v : D) : List D := List.take (0 + n) (List.drop 0 (List.replicate 0 z ++ List.take n (List.drop 0 L))) ++ List.take 1 (List.drop 0 ((List.replicate 1 z).set 0 v))
section
variable {z v : D} {L : List D} {n : Nat} (hn : L.length = n)
include z v L n hn
theorem aB0 : ap1 z n L v = L ++ [v] := by
 unfold ap1
 rw [List.replicate_zero, List.nil_append, List.drop_zero, List.drop_zero, List.drop_zero, List.take_of_length_le (l := L) (by omega), Nat.zero_add, List.take_of_length_le (l := L) (by omega)]
 rfl
theorem aKK : (ap1 z n L v).length = 0 + n + 1 := by rw [aB0 hn, List.length_append, hn, Nat.zero_add]; rfl
end
theorem aKN {L : List D} {n : Nat} (hn : L.length = n) : 0 + n ≤ L.length := by omega
theorem aKM {L : List D} {n : Nat} {z : D} (hn : L.length = n) (hL : gV (aH jR) L) : gV (aH jR) (List.replicate 0 z ++ List.take n (List.drop 0 L)) := by
 rw [List.replicate_zero, List.nil_append, List.drop_zero, List.take_of_length_le (by omega)]; exact hL
theorem aKL {z : D} {L : List D} {n : Nat} (hn : L.length = n) : 0 + (0 + n) ≤ (List.replicate 0 z ++ List.take n (List.drop 0 L)).length := by
 rw [List.replicate_zero, List.nil_append, List.drop_zero, List.take_of_length_le (by omega)]; omega
theorem aIY {z v : D} {L : List D} {n : Nat} (hn : L.length = n) (hL : gV (aH jR) L) (hv : aH jR v) : gV (aH jR) (ap1 z n L v) := by
 rw [aB0 hn]; exact yU hL ⟨hv, trivial⟩
section
variable {n : Nat} (h : n < 1000)
include n h
theorem aJS : (0 + (0 + (n + 1) + 1)) * 32 ≤ 140737488355328 := by omega
theorem aJR : (0 + (0 + (n + 1) + 1) + 1) * 32 ≤ 140737488355328 := by omega
theorem aI5 : (0 + (n + 1)) * 32 ≤ 140737488355328 := by omega
theorem aFf : (0 + (n + 1) + 1) * 32 ≤ 140737488355328 := by omega
end
theorem iD (q : Nat) : Int.tdiv ((512 * q : Nat) : Int) 512 = ((q : Nat) : Int) := by
 have h0 : Int.tdiv ((512 * q : Nat) : Int) ((512 : Nat) : Int) = ((512 * q / 512 : Nat) : Int) := rfl
 have h1 : 512 * q / 512 = q := Nat.mul_div_cancel_left _ (by decide)
 rw [h1] at h0; exact h0
section
variable (most : Nat) (S S2 B : B8) (lo : D) (st p : Nat) (hlo : lo = .nilslice ∨ ∃ n, lo = .slice 0 [] 0 n none) (hS : S.length ≤ most) (hm : most ≤ 16777216)
include most S S2 B lo st p hlo hS hm
theorem sM (h : S.length < p) (hp : p ≤ 1000000000) :
  AC Tryz.prog 102 [bU most S S2 lo st, .i64 p, .str B] 1 [] ⟨.tup [bU most S S2 lo st, .i64 43], [], []⟩ := by
 rcases hlo with rfl | ⟨n, rfl⟩
 all_goals
  refine acA tab mix Tryz.func102 {} ?_
  refine gob ?_
  refine aI [0]
theorem sN (h : p ≤ S.length) (hf : most < p + B.length) (hb : B.length ≤ 16777216) :
  AC Tryz.prog 102 [bU most S S2 lo st, .i64 p, .str B] 1 [] ⟨.tup [bU most S S2 lo st, .i64 21], [], []⟩ := by
 rcases hlo with rfl | ⟨n, rfl⟩
 all_goals
  refine acA tab mix Tryz.func102 {} ?_
  refine gob ?_
  refine aI [0]
end
section
variable (most : Nat) (S S2 B : B8)
include most S S2 B
set_option maxHeartbeats 2000000 in
theorem xI (st q : Nat) (hS : S.length ≤ most) (hm : most ≤ 16777216) (hp : 512 * q ≤ S.length) (hB : B.length = 512) (hf : 512 * q + 512 ≤ most) (hst : st < 100000) :
  AC Tryz.prog 102 [bU most S S2 (.nilslice) st, .i64 (512 * q : Nat), .str B] 0 []
   ⟨.tup [bU most (aV S B (512 * q)) S2 (.slice 0 [] 0 (1) none) (st + 1), .i64 0], [], [(.row jR, fL ([rlo (aV S B (512 * q)) ((q : Int) * 512)]))]⟩ := by
 have hl := tA S B (512 * q) (by omega) (by omega) (by omega) (by omega)
 have hL : (aV S B (512 * q)).length = max S.length (512 * q + 512) := by rw [aU, hB]
 generalize aV S B (512 * q) = T at hl hL ⊢
 have hI : inI (Int.tdiv ((512 * q : Nat) : Int) 512) := by rw [iD q]; unfold inI; omega
 refine acA tab mix Tryz.func102 ⟨[], [10]⟩ ?_
 repeat first | refine go1 ?_ | refine Br.yes rfl ?_ | refine Br.no rfl ?_ | refine Br.no (decide_eq_false (by omega)) ?_ | refine Br.yes (decide_eq_true (by omega)) ?_
 refine bK hl [] ?_
 repeat first | refine go1 ?_ | refine Br.yes rfl ?_ | refine Br.no rfl ?_ | refine Br.no (decide_eq_false (by omega)) ?_ | refine Br.yes (decide_eq_true (by omega)) ?_
 rw [iD q]
 repeat first | refine go1 ?_ | refine Br.yes rfl ?_ | refine Br.no rfl ?_ | refine Br.no (decide_eq_false (by omega)) ?_ | refine Br.yes (decide_eq_true (by omega)) ?_
 refine oI 2 ?_
 repeat first | refine go1 ?_ | refine Br.yes rfl ?_ | refine Br.no rfl ?_ | refine Br.no (decide_eq_false (by omega)) ?_ | refine Br.yes (decide_eq_true (by omega)) ?_
 refine ⟨2, ?_⟩
 repeat first | refine go1 ?_ | refine Br.yes rfl ?_ | refine Br.no rfl ?_ | refine Br.no (decide_eq_false (by omega)) ?_ | refine Br.yes (decide_eq_true (by omega)) ?_
 refine ⟨1, ?_⟩
 repeat first | refine go1 ?_ | refine Br.yes rfl ?_ | refine Br.no rfl ?_ | refine Br.no (decide_eq_false (by omega)) ?_ | refine Br.yes (decide_eq_true (by omega)) ?_
 have hs := kR most S S2 (.nilslice) st (.inl rfl) most T S2 (.slice 1 [] 0 (1) none) st (.inr ⟨_, rfl⟩) (by omega)
 refine bK hs [0, 4] ?_
 repeat first | refine go1 ?_ | refine Br.yes rfl ?_ | refine Br.no rfl ?_ | refine Br.no (decide_eq_false (by omega)) ?_ | refine Br.yes (decide_eq_true (by omega)) ?_
 refine aI [4]
set_option maxHeartbeats 2000000 in
theorem xH (l0 : RLo) (rl : List RLo) (hn : rl.length < 1000) (st q : Nat) (hS : S.length ≤ most) (hm : most ≤ 16777216) (hp : 512 * q ≤ S.length) (hB : B.length = 512) (hf : 512 * q + 512 ≤ most) (hst : st < 100000) :
  AC Tryz.prog 102 [bU most S S2 (.slice 0 [] 0 (rl.length + 1) none) st, .i64 (512 * q : Nat), .str B] 1 [(0, some ⟨.row jR, fL (l0 :: rl), false⟩)]
   ⟨.tup [bU most (aV S B (512 * q)) S2 (.slice 1 [] 0 (0 + (rl.length + 1) + 1) none) (st + 1), .i64 0], [], [(.row jR, fL (l0 :: rl ++ [rlo (aV S B (512 * q)) ((q : Int) * 512)]))]⟩ := by
 have hl := tA S B (512 * q) (by omega) (by omega) (by omega) (by omega)
 have hL : (aV S B (512 * q)).length = max S.length (512 * q + 512) := by rw [aU, hB]
 generalize aV S B (512 * q) = T at hl hL ⊢
 have hrl2 : gV (aH jR) ((rl.map lI).take rl.length) := by rw [List.take_of_length_le (by rw [List.length_map]; exact Nat.le_refl _)]; exact lX rl
 have hz : 0 + (rl.length + 1) ≤ ((l0 :: rl).map lI).length := by rw [List.length_map, List.length_cons]; omega
 have hty : gV (aH jR) (List.take (rl.length + 1) (List.drop 0 ((l0 :: rl).map lI))) := by rw [List.drop_zero, List.take_of_length_le (by rw [List.length_map, List.length_cons]; exact Nat.le_refl _)]; exact lX (l0 :: rl)
 have hz3 : (0 + (rl.length + 1)) * 32 ≤ 140737488355328 := aI5 hn
 have hz4 : (0 + (rl.length + 1) + 1) * 32 ≤ 140737488355328 := aFf hn
 have hI : inI (Int.tdiv ((512 * q : Nat) : Int) 512) := by rw [iD q]; unfold inI; omega
 refine acA tab mix Tryz.func102 ⟨[], [10]⟩ ?_
 repeat first | refine go1 ?_ | refine Br.yes rfl ?_ | refine Br.no rfl ?_ | refine Br.no (decide_eq_false (by omega)) ?_ | refine Br.yes (decide_eq_true (by omega)) ?_
 refine bK hl [0] ?_
 repeat first | refine go1 ?_ | refine Br.yes rfl ?_ | refine Br.no rfl ?_ | refine Br.no (decide_eq_false (by omega)) ?_ | refine Br.yes (decide_eq_true (by omega)) ?_
 rw [iD q]
 repeat first | refine go1 ?_ | refine Br.yes rfl ?_ | refine Br.no rfl ?_ | refine Br.no (decide_eq_false (by omega)) ?_ | refine Br.yes (decide_eq_true (by omega)) ?_
 refine oI 2 ?_
 repeat first | refine go1 ?_ | refine Br.yes rfl ?_ | refine Br.no rfl ?_ | refine Br.no (decide_eq_false (by omega)) ?_ | refine Br.yes (decide_eq_true (by omega)) ?_
 refine ⟨1, ?_⟩
 have hn0 : ((l0 :: rl).map lI).length = (rl.length + 1) := by rw [List.length_map, List.length_cons]
 have hL0 : gV (aH jR) ((l0 :: rl).map lI) := lX (l0 :: rl)
 refine EffG.mk (And.intro (And.intro (And.intro rfl (And.intro (Nat.le_refl _) (And.intro (aKN hn0) trivial))) (And.intro (And.intro (by omega) (And.intro hz3 (And.intro (by omega) (by decide)))) (aKM hn0 hL0))) ?_)
 repeat first | refine go1 ?_ | refine Br.yes rfl ?_ | refine Br.no rfl ?_ | refine Br.no (decide_eq_false (by omega)) ?_ | refine Br.yes (decide_eq_true (by omega)) ?_
 refine ⟨0, ?_⟩
 refine EffG.mk (And.intro (And.intro (And.intro (And.intro (Nat.le_refl _) (And.intro (aKL hn0) trivial)) (And.intro (Nat.le_refl _) (And.intro (Nat.le_of_ble_eq_true rfl) trivial))) (And.intro (And.intro hz4 (And.intro (by omega) (by decide))) (aIY (v := (lI (rlo T ((q : Int) * 512)))) hn0 hL0 ⟨rfl, rfl, rfl, trivial⟩))) ?_)
 repeat first | refine go1 ?_ | refine Br.yes rfl ?_ | refine Br.no rfl ?_ | refine Br.no (decide_eq_false (by omega)) ?_ | refine Br.yes (decide_eq_true (by omega)) ?_
 have hs := kR most S S2 (.slice 0 [] 0 (rl.length + 1) none) st (.inr ⟨_, rfl⟩) most T S2 (.slice 1 [] 0 (0 + (rl.length + 1) + 1) none) st (.inr ⟨_, rfl⟩) (by omega)
 refine bK hs [0, 6] ?_
 repeat first | refine go1 ?_ | refine Br.yes rfl ?_ | refine Br.no rfl ?_ | refine Br.no (decide_eq_false (by omega)) ?_ | refine Br.yes (decide_eq_true (by omega)) ?_
 have hfin : (ap1 (D.node [.i64 0, .str [], .i64 0]) (rl.length + 1) ((l0 :: rl).map lI) (lI (rlo T ((q : Int) * 512)))) = (l0 :: rl).map lI ++ [rlo T ((q : Int) * 512)].map lI := by rw [aB0 hn0]; rfl
 refine aI [0, 6] (h3 := ?_)
 (repeat' (first | exact trivial | refine And.intro ⟨_, rfl, rfl, ?_, id⟩ ?_ | refine And.intro ⟨_, rfl, rfl, ?_, fun _ => rfl⟩ ?_)) <;> first | rfl | exact (Pure.ren _).symm | exact (congrArg D.node hfin).trans (aFj (l0 :: rl) [rlo T ((q : Int) * 512)]) | trace_state
set_option maxHeartbeats 2000000 in
theorem xG (st q : Nat) (hS : S.length ≤ most) (hm : most ≤ 16777216) (hp : 512 * q ≤ S.length) (hB : B.length = 1024) (hf : 512 * q + 1024 ≤ most) (hst : st < 100000) :
  AC Tryz.prog 102 [bU most S S2 (.nilslice) st, .i64 (512 * q : Nat), .str B] 0 []
   ⟨.tup [bU most (aV S B (512 * q)) S2 (.slice 0 [] 0 (2) none) (st + 1), .i64 0], [], [(.row jR, fL ([rlo (aV S B (512 * q)) ((q : Int) * 512), rlo (aV S B (512 * q)) ((q : Int) * 512 + 512)]))]⟩ := by
 have hl := tA S B (512 * q) (by omega) (by omega) (by omega) (by omega)
 have hL : (aV S B (512 * q)).length = max S.length (512 * q + 1024) := by rw [aU, hB]
 generalize aV S B (512 * q) = T at hl hL ⊢
 have hI : inI (Int.tdiv ((512 * q : Nat) : Int) 512) := by rw [iD q]; unfold inI; omega
 refine acA tab mix Tryz.func102 ⟨[], [10]⟩ ?_
 repeat first | refine go1 ?_ | refine Br.yes rfl ?_ | refine Br.no rfl ?_ | refine Br.no (decide_eq_false (by omega)) ?_ | refine Br.yes (decide_eq_true (by omega)) ?_
 refine bK hl [] ?_
 repeat first | refine go1 ?_ | refine Br.yes rfl ?_ | refine Br.no rfl ?_ | refine Br.no (decide_eq_false (by omega)) ?_ | refine Br.yes (decide_eq_true (by omega)) ?_
 rw [iD q]
 repeat first | refine go1 ?_ | refine Br.yes rfl ?_ | refine Br.no rfl ?_ | refine Br.no (decide_eq_false (by omega)) ?_ | refine Br.yes (decide_eq_true (by omega)) ?_
 refine oI 3 ?_
 repeat first | refine go1 ?_ | refine Br.yes rfl ?_ | refine Br.no rfl ?_ | refine Br.no (decide_eq_false (by omega)) ?_ | refine Br.yes (decide_eq_true (by omega)) ?_
 refine ⟨2, ?_⟩
 repeat first | refine go1 ?_ | refine Br.yes rfl ?_ | refine Br.no rfl ?_ | refine Br.no (decide_eq_false (by omega)) ?_ | refine Br.yes (decide_eq_true (by omega)) ?_
 refine ⟨1, ?_⟩
 repeat first | refine go1 ?_ | refine Br.yes rfl ?_ | refine Br.no rfl ?_ | refine Br.no (decide_eq_false (by omega)) ?_ | refine Br.yes (decide_eq_true (by omega)) ?_
 refine ⟨1, ?_⟩
 repeat first | refine go1 ?_ | refine Br.yes rfl ?_ | refine Br.no rfl ?_ | refine Br.no (decide_eq_false (by omega)) ?_ | refine Br.yes (decide_eq_true (by omega)) ?_
 refine ⟨0, ?_⟩
 repeat first | refine go1 ?_ | refine Br.yes rfl ?_ | refine Br.no rfl ?_ | refine Br.no (decide_eq_false (by omega)) ?_ | refine Br.yes (decide_eq_true (by omega)) ?_
 have hs := kR most S S2 (.nilslice) st (.inl rfl) most T S2 (.slice 1 [] 0 (2) none) st (.inr ⟨_, rfl⟩) (by omega)
 refine bK hs [0, 7] ?_
 repeat first | refine go1 ?_ | refine Br.yes rfl ?_ | refine Br.no rfl ?_ | refine Br.no (decide_eq_false (by omega)) ?_ | refine Br.yes (decide_eq_true (by omega)) ?_
 refine aI [7]
set_option maxHeartbeats 2000000 in
theorem xF (l0 : RLo) (rl : List RLo) (hn : rl.length < 1000) (st q : Nat) (hS : S.length ≤ most) (hm : most ≤ 16777216) (hp : 512 * q ≤ S.length) (hB : B.length = 1024) (hf : 512 * q + 1024 ≤ most) (hst : st < 100000) :
  AC Tryz.prog 102 [bU most S S2 (.slice 0 [] 0 (rl.length + 1) none) st, .i64 (512 * q : Nat), .str B] 1 [(0, some ⟨.row jR, fL (l0 :: rl), false⟩)]
   ⟨.tup [bU most (aV S B (512 * q)) S2 (.slice 1 [] 0 (0 + (0 + (rl.length + 1) + 1) + 1) none) (st + 1), .i64 0], [], [(.row jR, fL (l0 :: rl ++ [rlo (aV S B (512 * q)) ((q : Int) * 512), rlo (aV S B (512 * q)) ((q : Int) * 512 + 512)]))]⟩ := by
 have hl := tA S B (512 * q) (by omega) (by omega) (by omega) (by omega)
 have hL : (aV S B (512 * q)).length = max S.length (512 * q + 1024) := by rw [aU, hB]
 generalize aV S B (512 * q) = T at hl hL ⊢
 have hrl2 : gV (aH jR) ((rl.map lI).take rl.length) := by rw [List.take_of_length_le (by rw [List.length_map]; exact Nat.le_refl _)]; exact lX rl
 have hz : 0 + (rl.length + 1) ≤ ((l0 :: rl).map lI).length := by rw [List.length_map, List.length_cons]; omega
 have hty : gV (aH jR) (List.take (rl.length + 1) (List.drop 0 ((l0 :: rl).map lI))) := by rw [List.drop_zero, List.take_of_length_le (by rw [List.length_map, List.length_cons]; exact Nat.le_refl _)]; exact lX (l0 :: rl)
 have hz3 : (0 + (rl.length + 1)) * 32 ≤ 140737488355328 := aI5 hn
 have hz4 : (0 + (rl.length + 1) + 1) * 32 ≤ 140737488355328 := aFf hn
 have hI : inI (Int.tdiv ((512 * q : Nat) : Int) 512) := by rw [iD q]; unfold inI; omega
 refine acA tab mix Tryz.func102 ⟨[], [10]⟩ ?_
 repeat first | refine go1 ?_ | refine Br.yes rfl ?_ | refine Br.no rfl ?_ | refine Br.no (decide_eq_false (by omega)) ?_ | refine Br.yes (decide_eq_true (by omega)) ?_
 refine bK hl [0] ?_
 repeat first | refine go1 ?_ | refine Br.yes rfl ?_ | refine Br.no rfl ?_ | refine Br.no (decide_eq_false (by omega)) ?_ | refine Br.yes (decide_eq_true (by omega)) ?_
 rw [iD q]
 repeat first | refine go1 ?_ | refine Br.yes rfl ?_ | refine Br.no rfl ?_ | refine Br.no (decide_eq_false (by omega)) ?_ | refine Br.yes (decide_eq_true (by omega)) ?_
 refine oI 3 ?_
 repeat first | refine go1 ?_ | refine Br.yes rfl ?_ | refine Br.no rfl ?_ | refine Br.no (decide_eq_false (by omega)) ?_ | refine Br.yes (decide_eq_true (by omega)) ?_
 refine ⟨1, ?_⟩
 have hn0 : ((l0 :: rl).map lI).length = (rl.length + 1) := by rw [List.length_map, List.length_cons]
 have hL0 : gV (aH jR) ((l0 :: rl).map lI) := lX (l0 :: rl)
 refine EffG.mk (And.intro (And.intro (And.intro rfl (And.intro (Nat.le_refl _) (And.intro (aKN hn0) trivial))) (And.intro (And.intro (by omega) (And.intro hz3 (And.intro (by omega) (by decide)))) (aKM hn0 hL0))) ?_)
 repeat first | refine go1 ?_ | refine Br.yes rfl ?_ | refine Br.no rfl ?_ | refine Br.no (decide_eq_false (by omega)) ?_ | refine Br.yes (decide_eq_true (by omega)) ?_
 refine ⟨0, ?_⟩
 refine EffG.mk (And.intro (And.intro (And.intro (And.intro (Nat.le_refl _) (And.intro (aKL hn0) trivial)) (And.intro (Nat.le_refl _) (And.intro (Nat.le_of_ble_eq_true rfl) trivial))) (And.intro (And.intro hz4 (And.intro (by omega) (by decide))) (aIY (v := (lI (rlo T ((q : Int) * 512)))) hn0 hL0 ⟨rfl, rfl, rfl, trivial⟩))) ?_)
 repeat first | refine go1 ?_ | refine Br.yes rfl ?_ | refine Br.no rfl ?_ | refine Br.no (decide_eq_false (by omega)) ?_ | refine Br.yes (decide_eq_true (by omega)) ?_
 refine ⟨1, ?_⟩
 have hn1 : (ap1 (D.node [.i64 0, .str [], .i64 0]) (rl.length + 1) ((l0 :: rl).map lI) (lI (rlo T ((q : Int) * 512)))).length = (0 + (rl.length + 1) + 1) := aKK hn0
 have hL1 : gV (aH jR) (ap1 (D.node [.i64 0, .str [], .i64 0]) (rl.length + 1) ((l0 :: rl).map lI) (lI (rlo T ((q : Int) * 512)))) := aIY hn0 hL0 ⟨rfl, rfl, rfl, trivial⟩
 refine EffG.mk (And.intro (And.intro (And.intro rfl (And.intro (Nat.le_refl _) (And.intro (aKN hn1) trivial))) (And.intro (And.intro (by omega) (And.intro (aJS hn) (And.intro (by omega) (by decide)))) (aKM hn1 hL1))) ?_)
 repeat first | refine go1 ?_ | refine Br.yes rfl ?_ | refine Br.no rfl ?_ | refine Br.no (decide_eq_false (by omega)) ?_ | refine Br.yes (decide_eq_true (by omega)) ?_
 refine ⟨0, ?_⟩
 refine EffG.mk (And.intro (And.intro (And.intro (And.intro (Nat.le_refl _) (And.intro (aKL hn1) trivial)) (And.intro (Nat.le_refl _) (And.intro (Nat.le_of_ble_eq_true rfl) trivial))) (And.intro (And.intro (aJR hn) (And.intro (by omega) (by decide))) (aIY (v := (lI (rlo T ((q : Int) * 512 + 512)))) hn1 hL1 ⟨rfl, rfl, rfl, trivial⟩))) ?_)
 repeat first | refine go1 ?_ | refine Br.yes rfl ?_ | refine Br.no rfl ?_ | refine Br.no (decide_eq_false (by omega)) ?_ | refine Br.yes (decide_eq_true (by omega)) ?_
 have hs := kR most S S2 (.slice 0 [] 0 (rl.length + 1) none) st (.inr ⟨_, rfl⟩) most T S2 (.slice 1 [] 0 (0 + (0 + (rl.length + 1) + 1) + 1) none) st (.inr ⟨_, rfl⟩) (by omega)
 refine bK hs [0, 9] ?_
 repeat first | refine go1 ?_ | refine Br.yes rfl ?_ | refine Br.no rfl ?_ | refine Br.no (decide_eq_false (by omega)) ?_ | refine Br.yes (decide_eq_true (by omega)) ?_
 have hfin : (ap1 (D.node [.i64 0, .str [], .i64 0]) (0 + (rl.length + 1) + 1) (ap1 (D.node [.i64 0, .str [], .i64 0]) (rl.length + 1) ((l0 :: rl).map lI) (lI (rlo T ((q : Int) * 512)))) (lI (rlo T ((q : Int) * 512 + 512)))) = (l0 :: rl).map lI ++ [rlo T ((q : Int) * 512), rlo T ((q : Int) * 512 + 512)].map lI := by rw [aB0 hn1, aB0 hn0, List.append_assoc]; rfl
 refine aI [0, 9] (h3 := ?_)
 (repeat' (first | exact trivial | refine And.intro ⟨_, rfl, rfl, ?_, id⟩ ?_ | refine And.intro ⟨_, rfl, rfl, ?_, fun _ => rfl⟩ ?_)) <;> first | rfl | exact (Pure.ren _).symm | exact (congrArg D.node hfin).trans (aFj (l0 :: rl) [rlo T ((q : Int) * 512), rlo T ((q : Int) * 512 + 512)]) | trace_state
end
theorem aJQ (c p : Nat) (hc : 1 ≤ c) (hc2 : c ≤ 64) (hp : 1 ≤ p) (hp2 : p ≤ 2) : AC Tryz.prog 124 [aCZ c p] 0 [] ⟨.bool true, [], []⟩ := by
 refine acA tab mix Tryz.func124 {} ?_
 refine gob ?_
 refine aI [] (h1 := ?_)
 show xB (.bool true) [.bool (decide ((p : Int) ≤ 2))]
 rw [decide_eq_true (by omega)]; rfl
theorem gA (c p : Nat) (n : BitVec 32) (q : Nat) (hq : q = 8 + n.toNat * p) (hc : 1 ≤ c) (hc2 : c ≤ 64) (hp : 1 ≤ p) (hp2 : p ≤ 2) (hn : n.toNat ≤ 65535) : AC Tryz.prog 88 [aCZ c p, .u32 n] 0 [] ⟨.i64 (512 * q : Nat), [], []⟩ := by
 have hm := aJQ c p hc hc2 hp hp2
 have e : ((512 * q : Nat) : Int) = 512 * (8 + (n.toNat : Int) * (p : Int)) := by rw [hq, ← Int.natCast_mul]; omega
 rw [e]
 have hx : (n.toNat : Int) * p ≤ 131070 := by
  have := Nat.mul_le_mul hn hp2
  rw [← Int.natCast_mul]
  omega
 have hx0 : 0 ≤ (n.toNat : Int) * p := by rw [← Int.natCast_mul]; omega
 clear hq e
 refine acA tab mix Tryz.func88 {} ?_
 refine gob ?_
 refine aA hm [] ?_
 refine brN ?_ (decide_eq_false (show ¬ 65535 < n.toNat by omega))
 refine gob ?_
 refine aI []
section
variable (bs : B8) (k : Nat) (cap : Option Nat) (hb : bs.length = k) (hk0 : 0 < k) (hk : k ≤ 100000)
include bs k cap hb hk0 hk
theorem kS :
  AC Tryz.prog 54 [.slice 0 [] 0 k cap] 1 [(0, some ⟨.row .cell, .u8s bs, false⟩), gK] ⟨.u8s (dI (jL ++ bs)), [], []⟩ := by
 have ho := aCv (jL ++ bs.take k) 0 (4 + k) none (by rw [List.length_append, List.length_take, hb, Nat.min_self]; show 0 + (4 + k) ≤ 4 + k; omega) (by omega)
 rw [List.drop_zero, List.take_of_length_le (l := jL ++ bs.take k) (by rw [List.length_append, List.length_take, hb, Nat.min_self]; show 4 + k ≤ 4 + k; omega)] at ho
 rw [show dI (jL ++ bs.take k) = dI (jL ++ bs) by rw [List.take_of_length_le (by omega)]] at ho
 have hy := bI (jL ++ bs)
 generalize dI (jL ++ bs) = y at ho hy ⊢
 refine acA tab mix Tryz.func54 {} ?_
 refine gob ?_
 refine ⟨1, ?_⟩
 refine gob ?_
 refine aA ho [3] ?_
 refine aI [0]
theorem e8 :
  AC Tryz.prog 57 [.slice 0 [] 0 k cap] 1 [(0, some ⟨.row .cell, .u8s bs, false⟩), gK] ⟨.u8s (dI (gX ++ bs)), [], []⟩ := by
 have ho := aCv (gX ++ bs.take k) 0 (4 + k) none (by rw [List.length_append, List.length_take, hb, Nat.min_self]; show 0 + (4 + k) ≤ 4 + k; omega) (by omega)
 rw [List.drop_zero, List.take_of_length_le (l := gX ++ bs.take k) (by rw [List.length_append, List.length_take, hb, Nat.min_self]; show 4 + k ≤ 4 + k; omega)] at ho
 rw [show dI (gX ++ bs.take k) = dI (gX ++ bs) by rw [List.take_of_length_le (by omega)]] at ho
 have hy := bI (gX ++ bs)
 generalize dI (gX ++ bs) = y at ho hy ⊢
 refine acA tab mix Tryz.func57 {} ?_
 refine gob ?_
 refine ⟨1, ?_⟩
 refine gob ?_
 refine aA ho [3] ?_
 refine aI [0]
end
theorem nH (tag bs : B8) (n : BitVec 32) (k : Nat) (cap : Option Nat) (ht : tag.length = 32) (hb : bs.length = k) (hk0 : 0 < k) (hk : k ≤ 100000) :
  AC Tryz.prog 46 [.u8s tag, .u32 n, .slice 0 [] 0 k cap] 1 [(0, some ⟨.row .cell, .u8s bs, false⟩), gK] ⟨.u8s (bY tag n bs), [], []⟩ := by
 have hp := fQ (n.setWidth 64)
 have hz := aZ (n.setWidth 64) 4
 have hy := aR tag n bs
 have e0 : bY tag n bs = hmF tag (oW ++ nbF (n.setWidth 64) 4 ++ bs) := rfl
 rw [e0] at hy ⊢
 clear e0
 generalize nbF (n.setWidth 64) 4 = z at hp hz hy ⊢
 have e1 : List.take (4 + 4) (oW ++ List.take 4 z) ++ bs.take k = oW ++ z ++ bs := by
  rw [List.take_of_length_le (l := z) (by omega), List.take_of_length_le (l := oW ++ z) (by rw [List.length_append, hz]; show 4 + 4 ≤ 4 + 4; omega), List.take_of_length_le (l := bs) (by omega)]
 have hl : (oW ++ z ++ bs).length = 4 + 4 + k := by rw [List.length_append, List.length_append, hz, hb]; rfl
 have ho := aFg tag (List.take (4 + 4) (oW ++ List.take 4 z) ++ bs.take k) 0 32 0 (4 + 4 + k) (some 32) none (by omega) (by rw [e1, hl]; omega) (by decide) (by omega)
 have e2 : hmF ((tag.drop 0).take 32) (((List.take (4 + 4) (oW ++ List.take 4 z) ++ bs.take k).drop 0).take (4 + 4 + k)) = hmF tag (oW ++ z ++ bs) := by
  rw [e1, List.drop_zero, List.drop_zero, List.take_of_length_le (l := tag) (by omega), List.take_of_length_le (by omega)]
 rw [e2] at ho
 clear e1 e2
 generalize hmF tag (oW ++ z ++ bs) = y at ho hy ⊢
 refine acA tab mix Tryz.func46 {} ?_
 refine gob ?_
 refine aA hp [] ?_
 refine ⟨1, ?_⟩
 refine gob ?_
 refine ⟨0, ?_⟩
 refine gob ?_
 refine aA (ho.arr 0 32) [1, 6] ?_
 refine aI [0]
theorem aEE (bs : B8) (o k : Nat) (cap : Option Nat) (hb : o + k ≤ bs.length) (hk : k ≤ 100000) :
  AC Tryz.prog 55 [.slice 0 [] o k cap] 1 [(0, some ⟨.row .cell, .u8s bs, false⟩)] ⟨.bool (eH bs o k), [], []⟩ := by
 by_cases h : ∀ i, i < k → bs.getD (o + i) 0 = 0
 ·rw [(i8 hb).2 h]
  refine acA tab mix Tryz.func55 {} ?_
  refine go ?_
  refine aX Nat (fun i => [(0, .slice 0 [] o k cap), (3, .i64 i)]) (fun i => [(0, some ⟨.row .cell, .u8s bs, false⟩)]) 1
   (fun i => i ≤ k) (fun i => k - i) 0 [0] (Nat.zero_le _) aK ?_
  intro i hi
  refine go ?_
  refine Br.split (fun hh => ?_) (fun hh => ?_)
  ·have hi : i < k := by have := of_decide_eq_true hh; omega
   refine go ?_
   refine Br.no (show (!decide (bs.getD (o + i) 0 = 0)) = false by rw [decide_eq_true (h i hi)]; rfl) ?_
   refine go ?_
   refine bB (i + 1) [0] aK
  ·refine go ?_
   refine aI [0]
 ·have e : eH bs o k = false := by
   cases hz : eH bs o k with
   |false => rfl
   |true => exact absurd ((i8 hb).1 hz) h
  rw [e]
  obtain ⟨j, h1, h2, h3⟩ := yA k (fun i => bs.getD (o + i) 0 = 0) h
  refine acA tab mix Tryz.func55 {} ?_
  refine go ?_
  refine aX Nat (fun i => [(0, .slice 0 [] o k cap), (3, .i64 i)]) (fun i => [(0, some ⟨.row .cell, .u8s bs, false⟩)]) 1
   (fun i => i ≤ j) (fun i => k - i) 0 [0] (Nat.zero_le _) aK ?_
  intro i hi
  refine go ?_
  refine brY ?_ (h := decide_eq_true (show (i : Int) < (k : Int) by omega))
  refine go ?_
  by_cases he : i = j
  ·subst he
   refine Br.yes (show (!decide (bs.getD (o + i) 0 = 0)) = true by rw [decide_eq_false h3]; rfl) ?_
   refine go ?_
   refine aI [0]
  ·refine Br.no (show (!decide (bs.getD (o + i) 0 = 0)) = false by rw [decide_eq_true (h2 i (by omega))]; rfl) ?_
   refine go ?_
   refine bB (i + 1) [0] aK
theorem jX (bs : B8) (k n : Nat) (cap : Option Nat) (hb : bs.length = k) (hk : k ≤ n) (hn : n ≤ 65536) :
  AC Tryz.prog 67 [.slice 0 [] 0 k cap, .i64 n] 1 [(0, some ⟨.row .cell, .u8s bs, false⟩)] ⟨.tup [.slice 1 [] 0 n none, .i64 0], [], [(.row .cell, .u8s (bs ++ List.replicate (n - k) 0))]⟩ := by
 refine acA tab mix Tryz.func67 {} ?_
 refine gob ?_
 refine ⟨0, ?_⟩
 refine gob ?_
 refine aX (Nat × B8) (fun z => [(1, .i64 n), (6, .slice 1 [] 0 z.1 none)]) (fun z => [(0, some ⟨.row .cell, .u8s bs, false⟩), (1, some ⟨.row .cell, .u8s z.2, true⟩)]) 2
  (fun z => z.1 ≤ n ∧ k ≤ z.1 ∧ z.2 = bs ++ List.replicate (z.1 - k) 0) (fun z => n - z.1) (k, List.take 0 ([] : B8) ++ List.take k bs) [0, 2] ⟨hk, Nat.le_refl _, by rw [Nat.sub_self, List.replicate_zero, List.append_nil, List.take_zero, List.nil_append, List.take_of_length_le (by omega)]⟩ aK ?_
 rintro ⟨m, y⟩ ⟨h1, h2, h3⟩
 have h1 : m ≤ n := h1
 have h2 : k ≤ m := h2
 have h3 : y = bs ++ List.replicate (m - k) 0 := h3
 have hl : y.length = m := by rw [h3, List.length_append, List.length_replicate, hb]; omega
 refine go ?_
 refine Br.split (fun hh => ?_) (fun hh => ?_)
 ·have hm : m < n := by have := of_decide_eq_true hh; omega
  have hnx : List.take m (List.drop 0 y) ++ [0] = bs ++ List.replicate (m + 1 - k) 0 := by
   rw [List.drop_zero, List.take_of_length_le (by omega), h3, List.append_assoc, show m + 1 - k = (m - k) + 1 by omega, List.replicate_succ']
  clear hh h3
  refine go ?_
  refine ⟨0, ?_⟩
  refine go ?_
  refine bB (m + 1, List.take m (List.drop 0 y) ++ [0]) [0, 3] aK (h1 := ⟨hm, Nat.le_succ_of_le h2, hnx⟩) (h2 := by show n - (m + 1) < n - m; omega)
 ·obtain rfl : m = n := by have := of_decide_eq_false hh; omega
  subst h3
  refine go ?_
  refine aI [0, 1]
theorem qL (n : Nat) (hn : n ≤ 65536) :
  AC Tryz.prog 67 [.nilslice, .i64 n] 0 [] ⟨.tup [.slice 0 [] 0 n none, .i64 0], [], [(.row .cell, .u8s (List.replicate n 0))]⟩ := by
 refine acA tab mix Tryz.func67 {} ?_
 refine gob ?_
 refine ⟨0, ?_⟩
 refine gob ?_
 refine aX (Nat × B8) (fun z => [(1, .i64 n), (6, .slice 0 [] 0 z.1 none)]) (fun z => [(0, some ⟨.row .cell, .u8s z.2, true⟩)]) 1
  (fun z => z.1 ≤ n ∧ z.2 = List.replicate z.1 0) (fun z => n - z.1) (0, []) [1] ⟨Nat.zero_le _, rfl⟩ aK ?_
 rintro ⟨m, y⟩ ⟨h1, h3⟩
 have h1 : m ≤ n := h1
 have h3 : y = List.replicate m 0 := h3
 have hl : y.length = m := by rw [h3, List.length_replicate]
 refine go ?_
 refine Br.split (fun hh => ?_) (fun hh => ?_)
 ·have hm : m < n := by have := of_decide_eq_true hh; omega
  have hnx : List.take m (List.drop 0 y) ++ [0] = List.replicate (m + 1) 0 := by
   rw [List.drop_zero, List.take_of_length_le (by omega), h3, List.replicate_succ']
  clear hh h3
  refine go ?_
  refine ⟨0, ?_⟩
  refine go ?_
  refine bB (m + 1, List.take m (List.drop 0 y) ++ [0]) [2] aK (h1 := ⟨hm, hnx⟩) (h2 := by show n - (m + 1) < n - m; omega)
 ·obtain rfl : m = n := by have := of_decide_eq_false hh; omega
  subst h3
  refine go ?_
  refine aI [0]
abbrev eC (c p : Nat) (k1 k2 : List B8) (tag : B8) : D := .node [aCZ c p, xR k1 k2, .u8s tag]
theorem qK (e : Int) (h : e ≠ 43) : AC Tryz.prog 89 [.i64 e] 0 [] ⟨.i64 e, [], []⟩ := by
 refine acA tab mix Tryz.func89 {} ?_
 refine gob ?_
 refine aI []
theorem vU : AC Tryz.prog 89 [.i64 43] 0 [] ⟨.i64 40, [], []⟩ := by
 refine acA tab mix Tryz.func89 {} ?_
 refine gob ?_
 refine aI []
abbrev tRSp : Ty := .st [.st [.cell, .cell], tR, .arr 32 .cell]
theorem aM {c p : Nat} {k1 k2 : List B8} {tag : B8} (h1 : Rows 15 16 k1) (h2 : Rows 15 16 k2) (ht : tag.length = 32) : aH tRSp (eC c p k1 k2 tag) := ⟨⟨rfl, rfl, trivial⟩, t9 h1 h2, ht, trivial⟩
theorem cA (c p : Nat) (k1 k2 : List B8) (tag : B8) (h1 : Rows 15 16 k1) (h2 : Rows 15 16 k2) (ht : tag.length = 32) (hp2 : p ≤ 2) :
  AC Tryz.prog 64 [eC c p k1 k2 tag] 0 [] ⟨.i64 (512 * p : Nat), [], []⟩ := by
 have hT := aM (c := c) (p := p) h1 h2 ht
 refine acA tab mix Tryz.func64 {} ?_
 refine EffG.mk (And.intro hT ?_)
 refine gob ?_
 refine aI []
theorem g9 (c p : Nat) (k1 k2 : List B8) (tag : B8) (n : BitVec 32) (q : Nat) (hq : q = 8 + n.toNat * p) (h1 : Rows 15 16 k1) (h2 : Rows 15 16 k2) (ht : tag.length = 32) (hc : 1 ≤ c) (hc2 : c ≤ 64) (hp : 1 ≤ p) (hp2 : p ≤ 2) (hn : n.toNat ≤ 65535) :
  AC Tryz.prog 48 [eC c p k1 k2 tag, .u32 n] 0 [] ⟨.u64 (BitVec.ofNat 64 q), [], []⟩ := by
 have hT := aM (c := c) (p := p) h1 h2 ht
 have h := gA c p n q hq hc hc2 hp hp2 hn
 have hql : q ≤ 200000 := by
  have := Nat.mul_le_mul hn hp2
  omega
 clear hq
 have e2 : BitVec.ofNat 64 q = BitVec.ofInt 64 (Int.tdiv ((512 * q : Nat) : Int) 512) := by rw [iD]; rfl
 rw [e2]
 have hI : inI (Int.tdiv ((512 * q : Nat) : Int) 512) := by rw [iD]; unfold inI; omega
 clear e2
 refine acA tab mix Tryz.func48 {} ?_
 refine EffG.mk (And.intro hT ?_)
 refine go ?_
 refine bG h [] ?_
 refine aI []
def rlP (T : B8) (q : Nat) : Nat → List RLo
 |2 => [rlo T ((q : Int) * 512), rlo T ((q : Int) * 512 + 512)]
 |_ => [rlo T ((q : Int) * 512)]
section
variable (most p : Nat) (hp1 : 1 ≤ p) (hp2 : p ≤ 2) (S S2 B : B8)
include most p hp1 hp2 S S2 B
theorem aAQ (st q : Nat) (hS : S.length ≤ most) (hm : most ≤ 16777216) (hp : 512 * q ≤ S.length) (hB : B.length = 512 * p) (hf : 512 * q + 512 * p ≤ most) (hst : st < 100000) :
  AC Tryz.prog 102 [bU most S S2 .nilslice st, .i64 (512 * q : Nat), .str B] 0 []
   ⟨.tup [bU most (aV S B (512 * q)) S2 (.slice 0 [] 0 p none) (st + 1), .i64 0], [], [(.row jR, fL (rlP (aV S B (512 * q)) q p))]⟩ := by
 have : p = 1 ∨ p = 2 := by omega
 rcases this with rfl | rfl
 ·exact xI most S S2 B st q hS hm hp hB hf hst
 ·exact xG most S S2 B st q hS hm hp hB hf hst
theorem aAP (l0 : RLo) (rl : List RLo) (hn : rl.length < 1000) (st q : Nat) (hS : S.length ≤ most) (hm : most ≤ 16777216) (hp : 512 * q ≤ S.length) (hB : B.length = 512 * p) (hf : 512 * q + 512 * p ≤ most) (hst : st < 100000) :
  AC Tryz.prog 102 [bU most S S2 (.slice 0 [] 0 (rl.length + 1) none) st, .i64 (512 * q : Nat), .str B] 1 [(0, some ⟨.row jR, fL (l0 :: rl), false⟩)]
   ⟨.tup [bU most (aV S B (512 * q)) S2 (.slice 1 [] 0 (rl.length + 1 + p) none) (st + 1), .i64 0], [], [(.row jR, fL (l0 :: rl ++ rlP (aV S B (512 * q)) q p))]⟩ := by
 have : p = 1 ∨ p = 2 := by omega
 rcases this with rfl | rfl
 ·have h := xH most S S2 B l0 rl hn st q hS hm hp hB hf hst
  rw [show 0 + (rl.length + 1) + 1 = rl.length + 1 + 1 by omega] at h
  exact h
 ·have h := xF most S S2 B l0 rl hn st q hS hm hp hB hf hst
  rw [show 0 + (0 + (rl.length + 1) + 1) + 1 = rl.length + 1 + 2 by omega] at h
  exact h
end
section
variable (c most p : Nat) (k1 k2 : List B8) (tag : B8) (n : BitVec 32) (q : Nat) (hq : q = 8 + n.toNat * p) (h1 : Rows 15 16 k1) (h2 : Rows 15 16 k2) (ht : tag.length = 32) (hc : 1 ≤ c) (hc2 : c ≤ 64) (hp1 : 1 ≤ p) (hp2 : p ≤ 2) (hn : n.toNat ≤ 65535) (S S2 B : B8)
include c most p k1 k2 tag n q hq h1 h2 ht hc hc2 hp1 hp2 hn S S2 B
theorem aDB (st : Nat) (cap : Option Nat) (hS : S.length ≤ most) (hm : most ≤ 16777216) (hp : 512 * q ≤ S.length) (hB : B.length = 512 * p) (hf : 512 * q + 512 * p ≤ most) (hst : st < 100000) :
  AC Tryz.prog 66 [eC c p k1 k2 tag, bU most S S2 .nilslice st, .u32 n, .slice 0 [] 0 (512 * p) cap] 1 [(0, some ⟨.row .cell, .u8s B, false⟩)]
   ⟨.tup [bU most (aV S B (512 * q)) S2 (.slice 1 [] 0 p none) (st + 1), .i64 0], [], [(.row jR, fL (rlP (aV S B (512 * q)) q p))]⟩ := by
 have hT := aM (c := c) (p := p) h1 h2 ht
 have h := gA c p n q hq hc hc2 hp1 hp2 hn
 have hw := aAQ most p hp1 hp2 S S2 (List.take (512 * p) (List.drop 0 B)) st q hS hm hp (by rw [List.drop_zero, List.length_take]; omega) hf hst
 rw [show aV S (List.take (512 * p) (List.drop 0 B)) (512 * q) = aV S B (512 * q) by rw [List.drop_zero, List.take_of_length_le (by omega)]] at hw
 have htd := qK 0 (by decide)
 generalize aV S B (512 * q) = T at hw ⊢
 clear hq
 refine acA tab mix Tryz.func66 {} ?_
 refine EffG.mk (And.intro hT ?_)
 refine gob ?_
 refine aA h [] ?_
 refine aA hw [] ?_
 refine aA htd [] ?_
 refine aI [0, 4]
theorem aDA (l0 : RLo) (rl : List RLo) (hl : rl.length < 1000) (st : Nat) (cap : Option Nat) (hS : S.length ≤ most) (hm : most ≤ 16777216) (hp : 512 * q ≤ S.length) (hB : B.length = 512 * p) (hf : 512 * q + 512 * p ≤ most) (hst : st < 100000) :
  AC Tryz.prog 66 [eC c p k1 k2 tag, bU most S S2 (.slice 1 [] 0 (rl.length + 1) none) st, .u32 n, .slice 0 [] 0 (512 * p) cap] 2 [(0, some ⟨.row .cell, .u8s B, false⟩), (1, some ⟨.row jR, fL (l0 :: rl), false⟩)]
   ⟨.tup [bU most (aV S B (512 * q)) S2 (.slice 2 [] 0 (rl.length + 1 + p) none) (st + 1), .i64 0], [], [(.row jR, fL (l0 :: rl ++ rlP (aV S B (512 * q)) q p))]⟩ := by
 have hT := aM (c := c) (p := p) h1 h2 ht
 have h := gA c p n q hq hc hc2 hp1 hp2 hn
 have hw := aAP most p hp1 hp2 S S2 (List.take (512 * p) (List.drop 0 B)) l0 rl hl st q hS hm hp (by rw [List.drop_zero, List.length_take]; omega) hf hst
 rw [show aV S (List.take (512 * p) (List.drop 0 B)) (512 * q) = aV S B (512 * q) by rw [List.drop_zero, List.take_of_length_le (by omega)]] at hw
 have htd := qK 0 (by decide)
 generalize aV S B (512 * q) = T at hw ⊢
 clear hq
 refine acA tab mix Tryz.func66 {} ?_
 refine EffG.mk (And.intro hT ?_)
 refine gob ?_
 refine aA h [] ?_
 refine aA hw [1] ?_
 refine aA htd [] ?_
 refine aI [0, 1, 5]
section
variable (lo : D) (hlo : lo = .nilslice ∨ ∃ n, lo = .slice 1 [] 0 n none) (st : Nat) (cap : Option Nat) (hS : S.length ≤ most) (hm : most ≤ 16777216)
include lo hlo st cap hS hm
theorem aCy (hp : S.length < 512 * q) (hB : B.length = 512 * p) :
  AC Tryz.prog 66 [eC c p k1 k2 tag, bU most S S2 lo st, .u32 n, .slice 0 [] 0 (512 * p) cap] 2 [(0, some ⟨.row .cell, .u8s B, false⟩)]
   ⟨.tup [bU most S S2 lo st, .i64 40], [], []⟩ := by
 have hT := aM (c := c) (p := p) h1 h2 ht
 have h := gA c p n q hq hc hc2 hp1 hp2 hn
 have hql : q ≤ 200000 := by have := Nat.mul_le_mul hn hp2; omega
 have htd := vU
 clear hq
 rcases hlo with rfl | ⟨m, rfl⟩
 ·have hw := sM most S S2 (List.take (512 * p) (List.drop 0 B)) .nilslice st (512 * q) (.inl rfl) hS hm hp (by omega)
  refine acA tab mix Tryz.func66 {} ?_
  refine EffG.mk (And.intro hT ?_)
  refine gob ?_
  refine aA h [] ?_
  refine aA hw [0] ?_
  refine aA htd [] ?_
  refine aI [0, 1]
 ·have hw := sM most S S2 (List.take (512 * p) (List.drop 0 B)) (.slice 0 [] 0 m none) st (512 * q) (.inr ⟨m, rfl⟩) hS hm hp (by omega)
  refine acA tab mix Tryz.func66 {} ?_
  refine EffG.mk (And.intro hT ?_)
  refine gob ?_
  refine aA h [] ?_
  refine aA hw [1] ?_
  refine aA htd [] ?_
  refine aI [0, 1]
theorem aCz (hp : 512 * q ≤ S.length) (hf : most < 512 * q + 512 * p) (hB : B.length = 512 * p) :
  AC Tryz.prog 66 [eC c p k1 k2 tag, bU most S S2 lo st, .u32 n, .slice 0 [] 0 (512 * p) cap] 2 [(0, some ⟨.row .cell, .u8s B, false⟩)]
   ⟨.tup [bU most S S2 lo st, .i64 21], [], []⟩ := by
 have hT := aM (c := c) (p := p) h1 h2 ht
 have h := gA c p n q hq hc hc2 hp1 hp2 hn
 have hql : q ≤ 200000 := by have := Nat.mul_le_mul hn hp2; omega
 have htd := qK 21 (by decide)
 clear hq
 rcases hlo with rfl | ⟨m, rfl⟩
 ·have hw := sN most S S2 (List.take (512 * p) (List.drop 0 B)) .nilslice st (512 * q) (.inl rfl) hS hm hp (by rw [List.drop_zero, List.length_take]; omega) (by rw [List.drop_zero, List.length_take]; omega)
  refine acA tab mix Tryz.func66 {} ?_
  refine EffG.mk (And.intro hT ?_)
  refine gob ?_
  refine aA h [] ?_
  refine aA hw [0] ?_
  refine aA htd [] ?_
  refine aI [0, 1]
 ·have hw := sN most S S2 (List.take (512 * p) (List.drop 0 B)) (.slice 0 [] 0 m none) st (512 * q) (.inr ⟨m, rfl⟩) hS hm hp (by rw [List.drop_zero, List.length_take]; omega) (by rw [List.drop_zero, List.length_take]; omega)
  refine acA tab mix Tryz.func66 {} ?_
  refine EffG.mk (And.intro hT ?_)
  refine gob ?_
  refine aA h [] ?_
  refine aA hw [1] ?_
  refine aA htd [] ?_
  refine aI [0, 1]
end
end
section
variable (c most p : Nat) (k1 k2 : List B8) (tag : B8) (n : BitVec 32) (q : Nat) (hq : q = 8 + n.toNat * p) (h1 : Rows 15 16 k1) (h2 : Rows 15 16 k2) (ht : tag.length = 32) (hc : 1 ≤ c) (hc2 : c ≤ 64) (hp1 : 1 ≤ p) (hp2 : p ≤ 2) (hn : n.toNat ≤ 65535) (S S2 B : B8)
include c most p k1 k2 tag n q hq h1 h2 ht hc hc2 hp1 hp2 hn S S2 B
theorem aCE (l0 : RLo) (rl : List RLo) (hl : rl.length < 1000) (st : Nat) (cap : Option Nat) (sm : B8) (hsm : sm.length = 32) (hS : S.length ≤ most) (hm : most ≤ 16777216) (hp : 512 * q ≤ S.length) (hB : B.length = 512 * p) (hf : 512 * q + 512 * p ≤ most) (hst : st < 100000) :
  AC Tryz.prog 69 [eC c p k1 k2 tag, bU most S S2 (.slice 1 [] 0 (rl.length + 1) none) st, .u32 n, .slice 0 [] 0 (512 * p) cap, .u8s sm] 2 [(0, some ⟨.row .cell, .u8s B, false⟩), (1, some ⟨.row jR, fL (l0 :: rl), false⟩)]
   ⟨.tup [bU most (aV S B (512 * q)) S2 (.slice 2 [] 0 (rl.length + 1 + p) none) (st + 1), aB (n + 1) sm, .i64 0], [], [(.row jR, fL (l0 :: rl ++ rlP (aV S B (512 * q)) q p))]⟩ := by
 have hT := aM (c := c) (p := p) h1 h2 ht
 have h := aDA c most p k1 k2 tag n q hq h1 h2 ht hc hc2 hp1 hp2 hn S S2 B l0 rl hl st cap hS hm hp hB hf hst
 clear hq
 generalize aV S B (512 * q) = T at h ⊢
 generalize rlP T q p = rp at h ⊢
 refine acA tab mix Tryz.func69 {} ?_
 refine EffG.mk (And.intro hT ?_)
 refine gob ?_
 refine brN ?_ (decide_eq_false (show ¬ 65535 < n.toNat by omega))
 refine gob ?_
 refine aA h [0, 1] ?_ (hargs := by simp only [D.rens, D.ren, aC]; rfl)
 refine aI [0, 1, 7]
section
variable (lo : D) (hlo : lo = .nilslice ∨ ∃ n, lo = .slice 1 [] 0 n none) (st : Nat) (cap : Option Nat) (sm : B8) (hsm : sm.length = 32) (hS : S.length ≤ most) (hm : most ≤ 16777216)
include lo hlo st cap sm hsm hS hm
theorem lU (hp : S.length < 512 * q) (hB : B.length = 512 * p) :
  AC Tryz.prog 69 [eC c p k1 k2 tag, bU most S S2 lo st, .u32 n, .slice 0 [] 0 (512 * p) cap, .u8s sm] 2 [(0, some ⟨.row .cell, .u8s B, false⟩)]
   ⟨.tup [bU most S S2 lo st, aB 0 (List.replicate 32 0), .i64 40], [], []⟩ := by
 have hT := aM (c := c) (p := p) h1 h2 ht
 have h := aCy c most p k1 k2 tag n q hq h1 h2 ht hc hc2 hp1 hp2 hn S S2 B lo hlo st cap hS hm hp hB
 clear hq
 rcases hlo with rfl | ⟨m, rfl⟩
 all_goals
  refine acA tab mix Tryz.func69 {} ?_
  refine EffG.mk (And.intro hT ?_)
  refine gob ?_
  refine brN ?_ (decide_eq_false (show ¬ 65535 < n.toNat by omega))
  refine gob ?_
  refine aA h [0, 1] ?_ (hargs := by simp only [D.rens, D.ren, aC]; rfl)
  refine aI [0, 1]
theorem lV (hp : 512 * q ≤ S.length) (hf : most < 512 * q + 512 * p) (hB : B.length = 512 * p) :
  AC Tryz.prog 69 [eC c p k1 k2 tag, bU most S S2 lo st, .u32 n, .slice 0 [] 0 (512 * p) cap, .u8s sm] 2 [(0, some ⟨.row .cell, .u8s B, false⟩)]
   ⟨.tup [bU most S S2 lo st, aB 0 (List.replicate 32 0), .i64 21], [], []⟩ := by
 have hT := aM (c := c) (p := p) h1 h2 ht
 have h := aCz c most p k1 k2 tag n q hq h1 h2 ht hc hc2 hp1 hp2 hn S S2 B lo hlo st cap hS hm hp hf hB
 clear hq
 rcases hlo with rfl | ⟨m, rfl⟩
 all_goals
  refine acA tab mix Tryz.func69 {} ?_
  refine EffG.mk (And.intro hT ?_)
  refine gob ?_
  refine brN ?_ (decide_eq_false (show ¬ 65535 < n.toNat by omega))
  refine gob ?_
  refine aA h [0, 1] ?_ (hargs := by simp only [D.rens, D.ren, aC]; rfl)
  refine aI [0, 1]
end
end
theorem lW (c most p : Nat) (k1 k2 : List B8) (tag : B8) (n : BitVec 32) (h1 : Rows 15 16 k1) (h2 : Rows 15 16 k2) (ht : tag.length = 32) (hn : 65535 < n.toNat) (S S2 : B8) (lo : D) (hlo : lo = .nilslice ∨ ∃ n, lo = .slice 1 [] 0 n none) (st k : Nat) (cap : Option Nat) (sm : B8) (hsm : sm.length = 32) :
  AC Tryz.prog 69 [eC c p k1 k2 tag, bU most S S2 lo st, .u32 n, .slice 0 [] 0 k cap, .u8s sm] 2 [] ⟨.tup [bU most S S2 lo st, aB 0 (List.replicate 32 0), .i64 2], [], []⟩ := by
 have hT := aM (c := c) (p := p) h1 h2 ht
 rcases hlo with rfl | ⟨m, rfl⟩
 all_goals
  refine acA tab mix Tryz.func69 {} ?_
  refine EffG.mk (And.intro hT ?_)
  refine gob ?_
  refine brY ?_ (h := decide_eq_true (show 65535 < n.toNat from hn))
  refine gob ?_
  refine aI [0, 1]

abbrev aT (b : Nat) : List RLo → D
 |[] => .nilslice
 |a :: l => .slice b [] 0 (l.length + 1) none
abbrev eG (b : Nat) : List RLo → Mem
 |[] => []
 |a :: l => [(b, some ⟨.row jR, fL (a :: l), false⟩)]
theorem bD (b : Nat) : ∀ rl : List RLo, aT b rl = .nilslice ∨ ∃ n, aT b rl = .slice b [] 0 n none
 |[] => .inl rfl
 |_ :: l => .inr ⟨l.length + 1, rfl⟩
section
variable (c most p : Nat) (k1 k2 : List B8) (tag : B8) (n : BitVec 32) (q : Nat) (hq : q = 8 + n.toNat * p) (h1 : Rows 15 16 k1) (h2 : Rows 15 16 k2) (ht : tag.length = 32) (hc : 1 ≤ c) (hc2 : c ≤ 64) (hp1 : 1 ≤ p) (hp2 : p ≤ 2) (hn : n.toNat ≤ 65535)
include c most p k1 k2 tag n q hq h1 h2 ht hc hc2 hp1 hp2 hn
theorem lT (S S2 B : B8) (rl : List RLo) (st : Nat) (cap : Option Nat) (sm : B8) (hsm : sm.length = 32) (hS : S.length ≤ most) (hm : most ≤ 16777216) (hB : B.length = 512 * p) (hl : rl.length < 1000) (hp : 512 * q ≤ S.length) (hf : 512 * q + 512 * p ≤ most) (hst : st < 100000) :
  AC Tryz.prog 69 [eC c p k1 k2 tag, bU most S S2 (aT 1 rl) st, .u32 n, .slice 0 [] 0 (512 * p) cap, .u8s sm] 2 ((0, some ⟨.row .cell, .u8s B, false⟩) :: eG 1 rl)
   ⟨.tup [bU most (aV S B (512 * q)) S2 (.slice 2 [] 0 (rl.length + p) none) (st + 1), aB (n + 1) sm, .i64 0], [], [(.row jR, fL (rl ++ rlP (aV S B (512 * q)) q p))]⟩ := by
 cases rl with
 |nil =>
  have hT := aM (c := c) (p := p) h1 h2 ht
  have h := aDB c most p k1 k2 tag n q hq h1 h2 ht hc hc2 hp1 hp2 hn S S2 B st cap hS hm hp hB hf hst
  rw [show ([] : List RLo).length + p = p from Nat.zero_add p, List.nil_append]
  clear hq
  generalize aV S B (512 * q) = T at h ⊢
  generalize rlP T q p = rp at h ⊢
  refine acA tab mix Tryz.func69 {} ?_
  refine EffG.mk (And.intro hT ?_)
  refine gob ?_
  refine brN ?_ (decide_eq_false (show ¬ 65535 < n.toNat by omega))
  refine gob ?_
  refine aA h [0] ?_ (hargs := by simp only [D.rens, D.ren, aC]; rfl)
  refine aI [0, 1, 7]
 |cons l0 rl => exact aCE c most p k1 k2 tag n q hq h1 h2 ht hc hc2 hp1 hp2 hn S S2 B l0 rl (by simp only [List.length_cons] at hl; omega) st cap sm hsm hS hm hp hB hf hst
theorem jU (S S2 B : B8) (k : Nat) (hB : B.length = k) (hk : k ≤ 512 * p) (rl : List RLo) (st : Nat) (cap : Option Nat) (hS : S.length ≤ most) (hm : most ≤ 16777216) (hl : rl.length < 1000) (hp : 512 * q ≤ S.length) (hf : 512 * q + 512 * p ≤ most) (hst : st < 100000) :
  AC Tryz.prog 29 [eC c p k1 k2 tag, bU most S S2 (aT 1 rl) st, .u32 n, .slice 0 [] 0 k cap] 2 ((0, some ⟨.row .cell, .u8s B, false⟩) :: (eG 1 rl ++ [gK]))
   ⟨.tup [bU most (aV S (cG p B) (512 * q)) S2 (.slice 2 [] 0 (rl.length + p) none) (st + 1), aB (n + 1) (b7 (cG p B)), .i64 0], [], [(.row jR, fL (rl ++ rlP (aV S (cG p B) (512 * q)) q p))]⟩ := by
 have hT := aM (c := c) (p := p) h1 h2 ht
 have hz := cA c p k1 k2 tag h1 h2 ht hp2
 have hpd := jX B k (512 * p) cap hB hk (by omega)
 rw [show B ++ List.replicate (512 * p - k) 0 = cG p B by rw [cG, hB]] at hpd
 have hPl : (cG p B).length = 512 * p := bM (by omega)
 generalize cG p B = Q at hpd hPl ⊢
 have hpg := e8 Q (512 * p) none hPl (by omega) (by omega)
 rw [show dI (gX ++ Q) = b7 Q from rfl] at hpg
 have hy := aP Q
 generalize b7 Q = y at hpg hy ⊢
 have h := lT c most p k1 k2 tag n q hq h1 h2 ht hc hc2 hp1 hp2 hn S S2 Q rl st none y hy hS hm hPl hl hp hf hst
 generalize aV S Q (512 * q) = T at h ⊢
 generalize rlP T q p = rp at h ⊢
 clear hq
 cases rl
 all_goals
  refine acA tab mix Tryz.func29 {} ?_
  refine EffG.mk (And.intro hT ?_)
  refine gob ?_
  refine aA hz [] ?_ (hargs := by simp only [D.rens, D.ren, aC]; rfl)
  refine aA hz [] ?_ (hargs := by simp only [D.rens, D.ren, aC]; rfl)
  refine aA hpd [0] ?_
  refine aA hpg [6] ?_
  refine aA h [6, 1] ?_ (hargs := by simp only [D.rens, D.ren, aC]; rfl)
  refine aI [0, 1, 7]
theorem jH (S S2 : B8) (rl : List RLo) (st : Nat) (hS : S.length ≤ most) (hm : most ≤ 16777216) (hl : rl.length < 1000) (hp : 512 * q ≤ S.length) (hf : 512 * q + 512 * p ≤ most) (hst : st < 100000) :
  AC Tryz.prog 29 [eC c p k1 k2 tag, bU most S S2 (aT 1 rl) st, .u32 n, .nilslice] 2 ((eG 1 rl ++ [gK]))
   ⟨.tup [bU most (aV S (zB (512 * p)) (512 * q)) S2 (.slice 2 [] 0 (rl.length + p) none) (st + 1), aB (n + 1) (b7 (zB (512 * p))), .i64 0], [], [(.row jR, fL (rl ++ rlP (aV S (zB (512 * p)) (512 * q)) q p))]⟩ := by
 have hT := aM (c := c) (p := p) h1 h2 ht
 have hz := cA c p k1 k2 tag h1 h2 ht hp2
 have hpd := qL (512 * p) (by omega)
 have hPl : (zB (512 * p)).length = 512 * p := List.length_replicate
 rw [show List.replicate (512 * p) (0 : BitVec 8) = zB (512 * p) from rfl] at hpd
 generalize zB (512 * p) = Q at hpd hPl ⊢
 have hpg := e8 Q (512 * p) none hPl (by omega) (by omega)
 rw [show dI (gX ++ Q) = b7 Q from rfl] at hpg
 have hy := aP Q
 generalize b7 Q = y at hpg hy ⊢
 have h := lT c most p k1 k2 tag n q hq h1 h2 ht hc hc2 hp1 hp2 hn S S2 Q rl st none y hy hS hm hPl hl hp hf hst
 generalize aV S Q (512 * q) = T at h ⊢
 generalize rlP T q p = rp at h ⊢
 clear hq
 cases rl
 all_goals
  refine acA tab mix Tryz.func29 {} ?_
  refine EffG.mk (And.intro hT ?_)
  refine gob ?_
  refine aA hz [] ?_ (hargs := by simp only [D.rens, D.ren, aC]; rfl)
  refine aA hz [] ?_ (hargs := by simp only [D.rens, D.ren, aC]; rfl)
  refine aA hpd [] ?_
  refine aA hpg [6] ?_
  refine aA h [6, 1] ?_ (hargs := by simp only [D.rens, D.ren, aC]; rfl)
  refine aI [0, 1, 7]
theorem uT (S S2 B : B8) (k : Nat) (hB : B.length = k) (hk : k ≤ 512 * p) (rl : List RLo) (st : Nat) (cap : Option Nat) (hS : S.length ≤ most) (hm : most ≤ 16777216) (hp : S.length < 512 * q) :
  AC Tryz.prog 29 [eC c p k1 k2 tag, bU most S S2 (aT 1 rl) st, .u32 n, .slice 0 [] 0 k cap] 2 ((0, some ⟨.row .cell, .u8s B, false⟩) :: [gK])
   ⟨.tup [bU most S S2 (aT 1 rl) st, aB 0 (List.replicate 32 0), .i64 40], [], []⟩ := by
 have hT := aM (c := c) (p := p) h1 h2 ht
 have hz := cA c p k1 k2 tag h1 h2 ht hp2
 have hpd := jX B k (512 * p) cap hB hk (by omega)
 rw [show B ++ List.replicate (512 * p - k) 0 = cG p B by rw [cG, hB]] at hpd
 have hPl : (cG p B).length = 512 * p := bM (by omega)
 generalize cG p B = Q at hpd hPl
 have hpg := e8 Q (512 * p) none hPl (by omega) (by omega)
 rw [show dI (gX ++ Q) = b7 Q from rfl] at hpg
 have hy := aP Q
 generalize b7 Q = y at hpg hy
 have h := lU c most p k1 k2 tag n q hq h1 h2 ht hc hc2 hp1 hp2 hn S S2 Q (aT 1 rl) (bD 1 rl) st none y hy hS hm hp hPl
 clear hq
 cases rl
 all_goals
  refine acA tab mix Tryz.func29 {} ?_
  refine EffG.mk (And.intro hT ?_)
  refine gob ?_
  refine aA hz [] ?_ (hargs := by simp only [D.rens, D.ren, aC]; rfl)
  refine aA hz [] ?_ (hargs := by simp only [D.rens, D.ren, aC]; rfl)
  refine aA hpd [0] ?_
  refine aA hpg [6] ?_
  refine aA h [6, 1] ?_ (hargs := by simp only [D.rens, D.ren, aC]; rfl)
  refine aI [0, 1]
theorem sG (S S2 : B8) (rl : List RLo) (st : Nat) (hS : S.length ≤ most) (hm : most ≤ 16777216) (hp : S.length < 512 * q) :
  AC Tryz.prog 29 [eC c p k1 k2 tag, bU most S S2 (aT 1 rl) st, .u32 n, .nilslice] 2 ([gK])
   ⟨.tup [bU most S S2 (aT 1 rl) st, aB 0 (List.replicate 32 0), .i64 40], [], []⟩ := by
 have hT := aM (c := c) (p := p) h1 h2 ht
 have hz := cA c p k1 k2 tag h1 h2 ht hp2
 have hpd := qL (512 * p) (by omega)
 have hPl : (zB (512 * p)).length = 512 * p := List.length_replicate
 rw [show List.replicate (512 * p) (0 : BitVec 8) = zB (512 * p) from rfl] at hpd
 generalize zB (512 * p) = Q at hpd hPl
 have hpg := e8 Q (512 * p) none hPl (by omega) (by omega)
 rw [show dI (gX ++ Q) = b7 Q from rfl] at hpg
 have hy := aP Q
 generalize b7 Q = y at hpg hy
 have h := lU c most p k1 k2 tag n q hq h1 h2 ht hc hc2 hp1 hp2 hn S S2 Q (aT 1 rl) (bD 1 rl) st none y hy hS hm hp hPl
 clear hq
 cases rl
 all_goals
  refine acA tab mix Tryz.func29 {} ?_
  refine EffG.mk (And.intro hT ?_)
  refine gob ?_
  refine aA hz [] ?_ (hargs := by simp only [D.rens, D.ren, aC]; rfl)
  refine aA hz [] ?_ (hargs := by simp only [D.rens, D.ren, aC]; rfl)
  refine aA hpd [] ?_
  refine aA hpg [6] ?_
  refine aA h [6, 1] ?_ (hargs := by simp only [D.rens, D.ren, aC]; rfl)
  refine aI [0, 1]
theorem uU (S S2 B : B8) (k : Nat) (hB : B.length = k) (hk : k ≤ 512 * p) (rl : List RLo) (st : Nat) (cap : Option Nat) (hS : S.length ≤ most) (hm : most ≤ 16777216) (hp : 512 * q ≤ S.length) (hf : most < 512 * q + 512 * p) :
  AC Tryz.prog 29 [eC c p k1 k2 tag, bU most S S2 (aT 1 rl) st, .u32 n, .slice 0 [] 0 k cap] 2 ((0, some ⟨.row .cell, .u8s B, false⟩) :: [gK])
   ⟨.tup [bU most S S2 (aT 1 rl) st, aB 0 (List.replicate 32 0), .i64 21], [], []⟩ := by
 have hT := aM (c := c) (p := p) h1 h2 ht
 have hz := cA c p k1 k2 tag h1 h2 ht hp2
 have hpd := jX B k (512 * p) cap hB hk (by omega)
 rw [show B ++ List.replicate (512 * p - k) 0 = cG p B by rw [cG, hB]] at hpd
 have hPl : (cG p B).length = 512 * p := bM (by omega)
 generalize cG p B = Q at hpd hPl
 have hpg := e8 Q (512 * p) none hPl (by omega) (by omega)
 rw [show dI (gX ++ Q) = b7 Q from rfl] at hpg
 have hy := aP Q
 generalize b7 Q = y at hpg hy
 have h := lV c most p k1 k2 tag n q hq h1 h2 ht hc hc2 hp1 hp2 hn S S2 Q (aT 1 rl) (bD 1 rl) st none y hy hS hm hp hf hPl
 clear hq
 cases rl
 all_goals
  refine acA tab mix Tryz.func29 {} ?_
  refine EffG.mk (And.intro hT ?_)
  refine gob ?_
  refine aA hz [] ?_ (hargs := by simp only [D.rens, D.ren, aC]; rfl)
  refine aA hz [] ?_ (hargs := by simp only [D.rens, D.ren, aC]; rfl)
  refine aA hpd [0] ?_
  refine aA hpg [6] ?_
  refine aA h [6, 1] ?_ (hargs := by simp only [D.rens, D.ren, aC]; rfl)
  refine aI [0, 1]
theorem sH (S S2 : B8) (rl : List RLo) (st : Nat) (hS : S.length ≤ most) (hm : most ≤ 16777216) (hp : 512 * q ≤ S.length) (hf : most < 512 * q + 512 * p) :
  AC Tryz.prog 29 [eC c p k1 k2 tag, bU most S S2 (aT 1 rl) st, .u32 n, .nilslice] 2 ([gK])
   ⟨.tup [bU most S S2 (aT 1 rl) st, aB 0 (List.replicate 32 0), .i64 21], [], []⟩ := by
 have hT := aM (c := c) (p := p) h1 h2 ht
 have hz := cA c p k1 k2 tag h1 h2 ht hp2
 have hpd := qL (512 * p) (by omega)
 have hPl : (zB (512 * p)).length = 512 * p := List.length_replicate
 rw [show List.replicate (512 * p) (0 : BitVec 8) = zB (512 * p) from rfl] at hpd
 generalize zB (512 * p) = Q at hpd hPl
 have hpg := e8 Q (512 * p) none hPl (by omega) (by omega)
 rw [show dI (gX ++ Q) = b7 Q from rfl] at hpg
 have hy := aP Q
 generalize b7 Q = y at hpg hy
 have h := lV c most p k1 k2 tag n q hq h1 h2 ht hc hc2 hp1 hp2 hn S S2 Q (aT 1 rl) (bD 1 rl) st none y hy hS hm hp hf hPl
 clear hq
 cases rl
 all_goals
  refine acA tab mix Tryz.func29 {} ?_
  refine EffG.mk (And.intro hT ?_)
  refine gob ?_
  refine aA hz [] ?_ (hargs := by simp only [D.rens, D.ren, aC]; rfl)
  refine aA hz [] ?_ (hargs := by simp only [D.rens, D.ren, aC]; rfl)
  refine aA hpd [] ?_
  refine aA hpg [6] ?_
  refine aA h [6, 1] ?_ (hargs := by simp only [D.rens, D.ren, aC]; rfl)
  refine aI [0, 1]
end
section
variable (c most p : Nat) (k1 k2 : List B8) (tag : B8) (n : BitVec 32) (h1 : Rows 15 16 k1) (h2 : Rows 15 16 k2) (ht : tag.length = 32)
include c most p k1 k2 tag n h1 h2 ht
theorem zY (hp2 : p ≤ 2) (S S2 : B8) (k : Nat) (hk : 512 * p < k) (hk2 : k < 9223372036854775808) (rl : List RLo) (st : Nat) (cap : Option Nat) :
  AC Tryz.prog 29 [eC c p k1 k2 tag, bU most S S2 (aT 1 rl) st, .u32 n, .slice 0 [] 0 k cap] 2 [] ⟨.tup [bU most S S2 (aT 1 rl) st, aB 0 (List.replicate 32 0), .i64 2], [], []⟩ := by
 have hT := aM (c := c) (p := p) h1 h2 ht
 have hz := cA c p k1 k2 tag h1 h2 ht hp2
 cases rl
 all_goals
  refine acA tab mix Tryz.func29 {} ?_
  refine EffG.mk (And.intro hT ?_)
  refine gob ?_
  refine bG hz [] ?_ (hargs := by simp only [D.rens, D.ren, aC]; rfl)
  refine brY ?_ (h := decide_eq_true (show ((512 * p : Nat) : Int) < ((k : Nat) : Int) by omega))
  refine gob ?_
  refine aI [0, 1]
section
variable (hp1 : 1 ≤ p) (hp2 : p ≤ 2) (hn : 65535 < n.toNat)
include hp1 hp2 hn
theorem zZ (S S2 B : B8) (k : Nat) (hB : B.length = k) (hk : k ≤ 512 * p) (rl : List RLo) (st : Nat) (cap : Option Nat) :
  AC Tryz.prog 29 [eC c p k1 k2 tag, bU most S S2 (aT 1 rl) st, .u32 n, .slice 0 [] 0 k cap] 2 ((0, some ⟨.row .cell, .u8s B, false⟩) :: [gK]) ⟨.tup [bU most S S2 (aT 1 rl) st, aB 0 (List.replicate 32 0), .i64 2], [], []⟩ := by
 have hT := aM (c := c) (p := p) h1 h2 ht
 have hz := cA c p k1 k2 tag h1 h2 ht hp2
 have hpd := jX B k (512 * p) cap hB hk (by omega)
 rw [show B ++ List.replicate (512 * p - k) 0 = cG p B by rw [cG, hB]] at hpd
 have hPl : (cG p B).length = 512 * p := bM (by omega)
 generalize cG p B = Q at hpd hPl
 have hpg := e8 Q (512 * p) none hPl (by omega) (by omega)
 rw [show dI (gX ++ Q) = b7 Q from rfl] at hpg
 have hy := aP Q
 generalize b7 Q = y at hpg hy
 have h := lW c most p k1 k2 tag n h1 h2 ht hn S S2 (aT 1 rl) (bD 1 rl) st (512 * p) none y hy
 cases rl
 all_goals
  refine acA tab mix Tryz.func29 {} ?_
  refine EffG.mk (And.intro hT ?_)
  refine gob ?_
  refine aA hz [] ?_ (hargs := by simp only [D.rens, D.ren, aC]; rfl)
  refine aA hz [] ?_ (hargs := by simp only [D.rens, D.ren, aC]; rfl)
  refine aA hpd [0] ?_
  refine aA hpg [6] ?_
  refine aA h [6, 1] ?_ (hargs := by simp only [D.rens, D.ren, aC]; rfl)
  refine aI [0, 1]
theorem w9 (S S2 : B8) (rl : List RLo) (st : Nat) :
  AC Tryz.prog 29 [eC c p k1 k2 tag, bU most S S2 (aT 1 rl) st, .u32 n, .nilslice] 2 [gK] ⟨.tup [bU most S S2 (aT 1 rl) st, aB 0 (List.replicate 32 0), .i64 2], [], []⟩ := by
 have hT := aM (c := c) (p := p) h1 h2 ht
 have hz := cA c p k1 k2 tag h1 h2 ht hp2
 have hpd := qL (512 * p) (by omega)
 have hPl : (zB (512 * p)).length = 512 * p := List.length_replicate
 rw [show List.replicate (512 * p) (0 : BitVec 8) = zB (512 * p) from rfl] at hpd
 generalize zB (512 * p) = Q at hpd hPl
 have hpg := e8 Q (512 * p) none hPl (by omega) (by omega)
 rw [show dI (gX ++ Q) = b7 Q from rfl] at hpg
 have hy := aP Q
 generalize b7 Q = y at hpg hy
 have h := lW c most p k1 k2 tag n h1 h2 ht hn S S2 (aT 1 rl) (bD 1 rl) st (512 * p) none y hy
 cases rl
 all_goals
  refine acA tab mix Tryz.func29 {} ?_
  refine EffG.mk (And.intro hT ?_)
  refine gob ?_
  refine aA hz [] ?_ (hargs := by simp only [D.rens, D.ren, aC]; rfl)
  refine aA hz [] ?_ (hargs := by simp only [D.rens, D.ren, aC]; rfl)
  refine aA hpd [] ?_
  refine aA hpg [6] ?_
  refine aA h [6, 1] ?_ (hargs := by simp only [D.rens, D.ren, aC]; rfl)
  refine aI [0, 1]
end
end
section
variable (c most p : Nat) (k1 k2 : List B8) (tag : B8) (a : BitVec 32) (r : B8) (hr : r.length = 32) (q : Nat) (hq : q = 8 + (a - 1).toNat * p) (h1 : Rows 15 16 k1) (h2 : Rows 15 16 k2) (ht : tag.length = 32) (hc : 1 ≤ c) (hc2 : c ≤ 64) (hp1 : 1 ≤ p) (hp2 : p ≤ 2) (ha0 : 1 ≤ a.toNat) (ha : a.toNat ≤ 65536) (S S2 : B8) (lo : D) (hlo : lo = .nilslice ∨ ∃ n, lo = .slice 0 [] 0 n none) (st : Nat) (hS : S.length ≤ 16777216)
include c most p k1 k2 tag a r hr q hq h1 h2 ht hc hc2 hp1 hp2 ha0 ha S S2 lo hlo st hS
theorem iL (hp : 512 * q + 512 * p ≤ S.length) :
  AC Tryz.prog 45 [eC c p k1 k2 tag, bU most S S2 lo st, aB a r] 1 [] ⟨.tup [.slice 1 [] 0 (512 * p) none, .i64 0], [], [(.row .cell, .u8s (cY S q p))]⟩ := by
 have hT := aM (c := c) (p := p) h1 h2 ht
 have hs1 := b8 ha0
 have hz := cA c p k1 k2 tag h1 h2 ht hp2
 have h := gA c p (a - 1) q hq hc hc2 hp1 hp2 (by omega)
 have htd := qK 0 (by decide)
 have hQl : (cY S q p).length = 512 * p := by rw [cY, List.length_take, List.length_drop]; omega
 have q0 : decide (a = BitVec.ofNat 32 (Int.toNat 0)) = false := decide_eq_false (fun e => by rw [e] at ha0; exact absurd ha0 (by decide))
 have q1 : ¬ 65535 < (a - 1).toNat := by omega
 clear hq
 rw [← hQl]
 rcases hlo with rfl | ⟨m, rfl⟩
 ·have hw := aAR most S S2 .nilslice st (512 * q) (512 * p) (.inl rfl) hp hS
  rw [show (S.drop (512 * q)).take (512 * p) = cY S q p from rfl] at hw
  generalize cY S q p = Q at hw hQl ⊢
  refine acA tab mix Tryz.func45 {} ?_
  refine EffG.mk (And.intro hT ?_)
  refine gob ?_
  rw [q0]
  refine gob ?_
  refine brN ?_ (decide_eq_false q1)
  refine gob ?_
  refine aA h [] ?_
  refine aA hz [] ?_ (hargs := by simp only [D.rens, D.ren, aC]; rfl)
  refine aA hw [0] ?_
  refine aA htd [] ?_
  refine aI [0, 4]
 ·have hw := aAR most S S2 (.slice 0 [] 0 m none) st (512 * q) (512 * p) (.inr ⟨m, rfl⟩) hp hS
  rw [show (S.drop (512 * q)).take (512 * p) = cY S q p from rfl] at hw
  generalize cY S q p = Q at hw hQl ⊢
  refine acA tab mix Tryz.func45 {} ?_
  refine EffG.mk (And.intro hT ?_)
  refine gob ?_
  rw [q0]
  refine gob ?_
  refine brN ?_ (decide_eq_false q1)
  refine gob ?_
  refine aA h [] ?_
  refine aA hz [] ?_ (hargs := by simp only [D.rens, D.ren, aC]; rfl)
  refine aA hw [0] ?_
  refine aA htd [] ?_
  refine aI [0, 4]
theorem sE (hp : S.length < 512 * q + 512 * p) :
  AC Tryz.prog 45 [eC c p k1 k2 tag, bU most S S2 lo st, aB a r] 1 [] ⟨.tup [.slice 1 [] 0 0 none, .i64 40], [], [(.row .cell, .u8s [])]⟩ := by
 have hT := aM (c := c) (p := p) h1 h2 ht
 have hs1 := b8 ha0
 have hz := cA c p k1 k2 tag h1 h2 ht hp2
 have h := gA c p (a - 1) q hq hc hc2 hp1 hp2 (by omega)
 have hql : q ≤ 200000 := by have := Nat.mul_le_mul (show (a - 1).toNat ≤ 65535 by omega) hp2; omega
 have htd := vU
 have q0 : decide (a = BitVec.ofNat 32 (Int.toNat 0)) = false := decide_eq_false (fun e => by rw [e] at ha0; exact absurd ha0 (by decide))
 have q1 : ¬ 65535 < (a - 1).toNat := by omega
 clear hq
 rcases hlo with rfl | ⟨m, rfl⟩
 ·have hw := vV most S S2 .nilslice st (512 * q) (512 * p) (.inl rfl) hp hS (by omega) (by omega)
  refine acA tab mix Tryz.func45 {} ?_
  refine EffG.mk (And.intro hT ?_)
  refine gob ?_
  rw [q0]
  refine gob ?_
  refine brN ?_ (decide_eq_false q1)
  refine gob ?_
  refine aA h [] ?_
  refine aA hz [] ?_ (hargs := by simp only [D.rens, D.ren, aC]; rfl)
  refine aA hw [0] ?_
  refine aA htd [] ?_
  refine aI [0, 4]
 ·have hw := vV most S S2 (.slice 0 [] 0 m none) st (512 * q) (512 * p) (.inr ⟨m, rfl⟩) hp hS (by omega) (by omega)
  refine acA tab mix Tryz.func45 {} ?_
  refine EffG.mk (And.intro hT ?_)
  refine gob ?_
  rw [q0]
  refine gob ?_
  refine brN ?_ (decide_eq_false q1)
  refine gob ?_
  refine aA h [] ?_
  refine aA hz [] ?_ (hargs := by simp only [D.rens, D.ren, aC]; rfl)
  refine aA hw [0] ?_
  refine aA htd [] ?_
  refine aI [0, 4]
end
theorem sF (c most p : Nat) (k1 k2 : List B8) (tag : B8) (a : BitVec 32) (r : B8) (hr : r.length = 32) (h1 : Rows 15 16 k1) (h2 : Rows 15 16 k2) (ht : tag.length = 32) (ha : a.toNat = 0 ∨ 65536 < a.toNat) (S S2 : B8) (lo : D) (hlo : lo = .nilslice ∨ ∃ n, lo = .slice 0 [] 0 n none) (st : Nat) :
  AC Tryz.prog 45 [eC c p k1 k2 tag, bU most S S2 lo st, aB a r] 1 [] ⟨.tup [.nilslice, .i64 2], [], []⟩ := by
 have hT := aM (c := c) (p := p) h1 h2 ht
 by_cases h0 : a.toNat = 0
 ·have q0 : decide (a = BitVec.ofNat 32 (Int.toNat 0)) = true := decide_eq_true (BitVec.eq_of_toNat_eq h0)
  rcases hlo with rfl | ⟨m, rfl⟩
  all_goals
   refine acA tab mix Tryz.func45 {} ?_
   refine EffG.mk (And.intro hT ?_)
   refine gob ?_
   rw [q0]
   refine gob ?_
   refine aI [0]
 ·have q0 : decide (a = BitVec.ofNat 32 (Int.toNat 0)) = false := decide_eq_false (fun e => h0 (by rw [e]; rfl))
  have q1 : 65535 < (a - 1).toNat := by rw [b8 (by omega)]; omega
  rcases hlo with rfl | ⟨m, rfl⟩
  all_goals
   refine acA tab mix Tryz.func45 {} ?_
   refine EffG.mk (And.intro hT ?_)
   refine gob ?_
   rw [q0]
   refine gob ?_
   refine brY ?_ (h := decide_eq_true q1)
   refine gob ?_
   refine aI [0]
section
variable (c most p : Nat) (k1 k2 : List B8) (tag : B8) (a : BitVec 32) (r : B8) (hr : r.length = 32) (h1 : Rows 15 16 k1) (h2 : Rows 15 16 k2) (ht : tag.length = 32) (q : Nat) (hq : q = 8 + (a - 1).toNat * p) (hc : 1 ≤ c) (hc2 : c ≤ 64) (hp1 : 1 ≤ p) (hp2 : p ≤ 2) (ha0 : 1 ≤ a.toNat) (ha : a.toNat ≤ 65536) (S S2 : B8) (lo : D) (hlo : lo = .nilslice ∨ ∃ n, lo = .slice 0 [] 0 n none) (st : Nat) (hS : S.length ≤ 16777216)
include c most p k1 k2 tag a r hr h1 h2 ht q hq hc hc2 hp1 hp2 ha0 ha S S2 lo hlo st hS
section
variable (hp : 512 * q + 512 * p ≤ S.length)
include hp
theorem aAC (he : b7 (cY S q p) = r) :
  AC Tryz.prog 20 [eC c p k1 k2 tag, bU most S S2 lo st, aB a r] 1 [gK] ⟨.tup [.slice 1 [] 0 (512 * p) none, .i64 0], [], [(.row .cell, .u8s (cY S q p))]⟩ := by
 have hT := aM (c := c) (p := p) h1 h2 ht
 have h := iL c most p k1 k2 tag a r hr q hq h1 h2 ht hc hc2 hp1 hp2 ha0 ha S S2 lo hlo st hS hp
 have hQl : (cY S q p).length = 512 * p := by rw [cY, List.length_take, List.length_drop]; omega
 generalize cY S q p = Q at h hQl he ⊢
 have hpg := e8 Q (512 * p) none hQl (by omega) (by omega)
 rw [show dI (gX ++ Q) = b7 Q from rfl] at hpg
 have hy := aP Q
 generalize b7 Q = y at hpg hy he
 clear hq
 rcases hlo with rfl | ⟨m, rfl⟩
 all_goals
  refine acA tab mix Tryz.func20 {} ?_
  refine EffG.mk (And.intro hT ?_)
  refine gob ?_
  refine aA h [0] ?_ (hargs := by simp only [D.rens, D.ren, aC]; rfl)
  refine aA hpg [4] ?_
  refine aI [0, 4]
theorem aAB (he : ¬ b7 (cY S q p) = r) :
  AC Tryz.prog 20 [eC c p k1 k2 tag, bU most S S2 lo st, aB a r] 1 [gK] ⟨.tup [.nilslice, .i64 40], [], []⟩ := by
 have hT := aM (c := c) (p := p) h1 h2 ht
 have h := iL c most p k1 k2 tag a r hr q hq h1 h2 ht hc hc2 hp1 hp2 ha0 ha S S2 lo hlo st hS hp
 have hQl : (cY S q p).length = 512 * p := by rw [cY, List.length_take, List.length_drop]; omega
 generalize cY S q p = Q at h hQl he
 have hpg := e8 Q (512 * p) none hQl (by omega) (by omega)
 rw [show dI (gX ++ Q) = b7 Q from rfl] at hpg
 have hy := aP Q
 generalize b7 Q = y at hpg hy he
 clear hq
 rcases hlo with rfl | ⟨m, rfl⟩
 all_goals
  refine acA tab mix Tryz.func20 {} ?_
  refine EffG.mk (And.intro hT ?_)
  refine gob ?_
  refine aA h [0] ?_ (hargs := by simp only [D.rens, D.ren, aC]; rfl)
  refine aA hpg [4] ?_
  refine aI [0]
end
theorem aAA (hp : S.length < 512 * q + 512 * p) :
  AC Tryz.prog 20 [eC c p k1 k2 tag, bU most S S2 lo st, aB a r] 1 [gK] ⟨.tup [.nilslice, .i64 40], [], []⟩ := by
 have hT := aM (c := c) (p := p) h1 h2 ht
 have h := sE c most p k1 k2 tag a r hr q hq h1 h2 ht hc hc2 hp1 hp2 ha0 ha S S2 lo hlo st hS hp
 clear hq
 rcases hlo with rfl | ⟨m, rfl⟩
 all_goals
  refine acA tab mix Tryz.func20 {} ?_
  refine EffG.mk (And.intro hT ?_)
  refine gob ?_
  refine aA h [0] ?_ (hargs := by simp only [D.rens, D.ren, aC]; rfl)
  refine aI [0]
end
theorem aAD (c most p : Nat) (k1 k2 : List B8) (tag : B8) (a : BitVec 32) (r : B8) (hr : r.length = 32) (h1 : Rows 15 16 k1) (h2 : Rows 15 16 k2) (ht : tag.length = 32) (ha : a.toNat = 0 ∨ 65536 < a.toNat) (S S2 : B8) (lo : D) (hlo : lo = .nilslice ∨ ∃ n, lo = .slice 0 [] 0 n none) (st : Nat) :
  AC Tryz.prog 20 [eC c p k1 k2 tag, bU most S S2 lo st, aB a r] 1 [gK] ⟨.tup [.nilslice, .i64 2], [], []⟩ := by
 have hT := aM (c := c) (p := p) h1 h2 ht
 have h := sF c most p k1 k2 tag a r hr h1 h2 ht ha S S2 lo hlo st
 rcases hlo with rfl | ⟨m, rfl⟩
 all_goals
  refine acA tab mix Tryz.func20 {} ?_
  refine EffG.mk (And.intro hT ?_)
  refine gob ?_
  refine aA h [0] ?_ (hargs := by simp only [D.rens, D.ren, aC]; rfl)
  refine aI [0]
end Go.Proofs.YtodkhgofmgaafaaGreatDoor.Av
