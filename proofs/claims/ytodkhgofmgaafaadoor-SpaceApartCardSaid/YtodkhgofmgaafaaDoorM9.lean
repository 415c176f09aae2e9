import Derived.Test.YtodkhgofmgaafaaDoorM8
import Derived.Test.YtodkhgofmgaafaaDoorM4
import Derived.ProofKit
import Derived.OpenShut
import Derived.Lib.LaidU8
import Derived.Lay
import Derived.MakeChecks
import Derived.ChangeSlices
import Derived.ChangeSame
namespace Go.Proofs.YtodkhgofmgaafaaDoor.Av
open Go
set_option linter.all false
set_option maxRecDepth 3000

theorem sapart1_ac (K bs : List (BitVec 8)) (n0 n1 : BitVec 8) (k c : Nat) (hK : K.length = 32) (hbs : bs.length = k) (hn : n1.toNat % 3 = 1) (hk : k ≤ 140737488355328) :
    AC Tryd.prog 9 [.u8s K, .u8s [n0, n1], .slice 0 [] 0 k (some c)] 1 [(0, some ⟨.row .cell, .u8s bs, false⟩), gR] ⟨.bool true, [], []⟩ := by
  have hb := begun_ac
  have hd := dbytes_ac 32768 16384 none 16384 none [] 0 (zB 16384) (by simp) (by decide)
  refine acA tab mix Tryd.func9 {} ?_
  repeat first | refine EffG.mk (obA ?_) | refine obA ?_ | refine chkA ?_ | refine brY ?_ | refine brN ?_
  refine callA hb [] ?_
  repeat first | refine EffG.mk (obA ?_) | refine obA ?_ | refine chkA ?_ | refine brY ?_ | refine brN ?_
  refine callA hd [3, 4, 5, 5] ?_
  repeat first | refine EffG.mk (obA ?_) | refine obA ?_ | refine chkA ?_ | refine brY ?_ | refine brN ?_
  refine loopG Nat (fun i => [(3, .ptr 1 []), (4, .ptr 2 []), (7, .ptr 3 []), (8, .slice 6 [] 0 16384 none), (9, .i64 i), (2, .slice 0 [] 0 (min (k : Int) 512).toNat (some c))])
    (fun i => [(0, some ⟨.row .cell, .u8s bs, false⟩), gR, (1, some ⟨.arr 32 .cell, .u8s K, true⟩), (2, some ⟨.arr 2 .cell, .u8s [n0, n1], true⟩), (3, some ⟨tDv, .node [.i64 (32768 : Nat), .slice 4 [] 0 16384 none, .slice 5 [] 0 16384 none, .nilslice, .i64 (0 : Nat), .bool false, .nilptr], true⟩), (6, some ⟨.row .cell, .u8s (patF i), true⟩)])
    7 (fun i => i ≤ 16384) (fun i => 16384 - i) 0 [0, 1, 2, 3, 4, 5, 6] (Nat.zero_le _) viewA ?_
  intro i hi
  have hpl := patF_length i
  have hmod : Int.tmod (i : Int) 251 = ((i % 251 : Nat) : Int) := rfl
  repeat first | refine EffG.mk (obA ?_) | refine obA ?_ | refine chkA ?_
  refine Br.split (fun h => ?_) (fun h => ?_)
  · have hi : i < 16384 := by have := of_decide_eq_true h; omega
    repeat first | refine EffG.mk (obA ?_) | refine obA ?_ | refine chkA ?_
    refine nextA (i + 1) [0, 1, 2, 3, 4, 5, 6] viewA
  · generalize patF i = P at hpl ⊢
    have hld := dload2_ac 32768 16384 0 16384 16384 0 none none [] P none (by omega) (by decide) (by decide)
    rw [List.drop_zero, List.take_of_length_le (by omega)] at hld
    have hnw := snew_ac 8 K (by decide) (by decide) hK geo_ne
    have h1 := rows_sched (labF K oneS) (labF_length _ _)
    have h2 := rows_sched (labF K twoS) (labF_length _ _)
    have ht := labF_length K tagS
    generalize labF K tagS = tg at hnw ht
    generalize schedF (labF K oneS) = k1 at hnw h1
    generalize schedF (labF K twoS) = k2 at hnw h2
    have ha : ((n0 % 20#8).setWidth 32).toNat < 20 := by
      rw [BitVec.toNat_setWidth, BitVec.toNat_umod]
      have := Nat.mod_lt n0.toNat (show 0 < (20#8).toNat by decide)
      have e : (20#8).toNat = 20 := rfl
      rw [e] at *
      exact Nat.lt_of_le_of_lt (Nat.mod_le _ _) this
    have hkk : (min (k : Int) 512).toNat ≤ 512 ∧ (min (k : Int) 512).toNat ≤ k := by omega
    have hpp := sputpage_ac 8 tg k1 k2 32768 16384 none 16384 none [] 0 P ((n0 % 20#8).setWidth 32) bs 0 (min (k : Int) 512).toNat (some c) (by decide) (by decide) ht (by simp) hpl (by omega) (by omega) (by omega) hkk.1 (by decide) (by decide) (by decide) (by decide)
    have hQ : (pad512 ((bs.drop 0).take (min (k : Int) 512).toNat)).length = 512 := by
      rw [pad512, List.length_append, List.length_replicate, List.length_take, List.length_drop]; omega
    have hy := pageF_length (pad512 ((bs.drop 0).take (min (k : Int) 512).toNat))
    generalize pad512 ((bs.drop 0).take (min (k : Int) 512).toNat) = Q at hpp hQ hy
    generalize pageF Q = y at hpp hy
    have hSl : (layF P Q (512 * (8 + ((n0 % 20#8).setWidth 32).toNat))).length = 16384 := by rw [layF_length (by omega), hpl]
    have hSo : ∀ j, (j < 4096 + 512 * ((n0 % 20#8).setWidth 32).toNat ∨ 4608 + 512 * ((n0 % 20#8).setWidth 32).toNat ≤ j) → (layF P Q (512 * (8 + ((n0 % 20#8).setWidth 32).toNat))).getD j 0 = P.getD j 0 := fun j hj => by
      rw [layF_getD (by omega), if_neg (by omega)]
    generalize layF P Q (512 * (8 + ((n0 % 20#8).setWidth 32).toNat)) = S1 at hpp hSl hSo
    have hpn := sputnode_ac 8 tg k1 k2 32768 16384 none 16384 none [loF S1 (8 + ((n0 % 20#8).setWidth 32).toNat)] 1 S1 ((n0 % 20#8).setWidth 32) 0 0 0 0 0 0 0 0 (zB 32) (zB 32) (zB 32) (zB 32) (zB 32) (zB 32) (zB 32) (zB 32) (by simp) (by simp) (by simp) (by simp) (by simp) (by simp) (by simp) (by simp) (by decide) (by decide) ht (by intro x hx; rcases List.mem_singleton.1 hx with rfl; exact loB_length S1 _ (by omega)) hSl (by omega) (by omega) (by decide) (by decide) (by simp) (by decide)
    have hQ2 : (pad512 (node8B 0 0 0 0 0 0 0 0 (zB 32) (zB 32) (zB 32) (zB 32) (zB 32) (zB 32) (zB 32) (zB 32))).length = 512 := by
      rw [pad512, List.length_append, List.length_replicate, node8B_length (by simp) (by simp) (by simp) (by simp) (by simp) (by simp) (by simp) (by simp)]
    have hy2 := nodeF_length (pad512 (node8B 0 0 0 0 0 0 0 0 (zB 32) (zB 32) (zB 32) (zB 32) (zB 32) (zB 32) (zB 32) (zB 32)))
    generalize pad512 (node8B 0 0 0 0 0 0 0 0 (zB 32) (zB 32) (zB 32) (zB 32) (zB 32) (zB 32) (zB 32) (zB 32)) = Q2 at hpn hQ2 hy2
    generalize nodeF Q2 = y2 at hpn hy2
    have hSl2 : (layF S1 Q2 (512 * (8 + ((n0 % 20#8).setWidth 32).toNat))).length = 16384 := by rw [layF_length (by omega), hSl]
    have hSo2 : ∀ j, (j < 4096 + 512 * ((n0 % 20#8).setWidth 32).toNat ∨ 4608 + 512 * ((n0 % 20#8).setWidth 32).toNat ≤ j) → (layF S1 Q2 (512 * (8 + ((n0 % 20#8).setWidth 32).toNat))).getD j 0 = P.getD j 0 := fun j hj => by
      rw [layF_getD (by omega), if_neg (by omega), hSo j hj]
    generalize layF S1 Q2 (512 * (8 + ((n0 % 20#8).setWidth 32).toNat)) = S2 at hpn hSl2 hSo2
    have hn1 : decide (n1 % 3#8 = 1#8) = true := decide_eq_true (by
      apply BitVec.eq_of_toNat_eq
      rw [BitVec.toNat_umod]
      exact hn)
    have hn2 : decide (n1 % 3#8 = 2#8) = false := decide_eq_false (fun e => by
      have := congrArg BitVec.toNat e
      rw [BitVec.toNat_umod] at this
      have e3 : (3#8).toNat = 3 := rfl
      have e1 : (2#8).toNat = 2 := rfl
      rw [e3, e1] at this
      omega)
    repeat first | refine EffG.mk (obA ?_) | refine obA ?_ | refine chkA ?_
    refine callA hld [3, 4, 5, 5, 6] ?_
    repeat first | refine EffG.mk (obA ?_) | refine obA ?_ | refine chkA ?_ | refine brY ?_ | refine brN ?_
    refine callA hnw [3] ?_
    repeat first | refine EffG.mk (obA ?_) | refine obA ?_ | refine chkA ?_ | refine brY ?_ | refine brN ?_
    refine callA hpp [3, 7, 8, 8, 9, 10, 11, 12, 0] ?_
    repeat first | refine EffG.mk (obA ?_) | refine obA ?_ | refine chkA ?_
    refine Br.yes hn1 ?_
    repeat first | refine EffG.mk (obA ?_) | refine obA ?_ | refine chkA ?_
    refine callA hpn [3, 7, 8, 13, 9, 10, 11, 12] ?_
    repeat first | refine EffG.mk (obA ?_) | refine obA ?_ | refine chkA ?_
    refine brN ?_ hn2
    repeat first | refine EffG.mk (obA ?_) | refine obA ?_ | refine chkA ?_
    have hd2 := dbytes_ac 32768 16384 none 16384 none ([loF S1 (8 + ((n0 % 20#8).setWidth 32).toNat)] ++ [loF S2 (8 + ((n0 % 20#8).setWidth 32).toNat)]) 2 S2 hSl2 (by decide)
    refine callA hd2 [3, 7, 8, 15] ?_
    repeat first | refine EffG.mk (obA ?_) | refine obA ?_ | refine chkA ?_ | refine brN ?_ | refine Br.yes rfl ?_
    refine loopG Nat (fun j => [(8, .slice 6 [] 0 16384 none), (11, .u32 ((n0 % 20#8).setWidth 32)), (14, .slice 16 [] 0 16384 none), (15, .i64 j)])
      (fun j => [(0, some ⟨.row .cell, .u8s bs, false⟩), gR, (6, some ⟨.row .cell, .u8s P, true⟩), (16, some ⟨.row .cell, .u8s S2, true⟩)])
      17 (fun j => j ≤ 16384) (fun j => 16384 - j) 0 [0, 1, 2, 3, 4, 5, 6, 7, 8, 9, 10, 11, 12, 13, 14, 15, 16] (Nat.zero_le _) viewA ?_
    intro j hj
    repeat first | refine EffG.mk (obA ?_) | refine obA ?_ | refine chkA ?_
    refine Br.split (fun h => ?_) (fun h => ?_)
    · have hj : j < 16384 := by have := of_decide_eq_true h; omega
      repeat first | refine EffG.mk (obA ?_) | refine obA ?_ | refine chkA ?_
      by_cases p1 : j < 4096 + 512 * ((n0 % 20#8).setWidth 32).toNat
      · have he := hSo2 j (.inl p1)
        have hq : decide ((j : Int) < 4096 + 512 * (((n0 % 20#8).setWidth 32).toNat : Int)) = true := decide_eq_true (by omega)
        rw [hq]
        have hz : (!decide (S2.getD (0 + j) 0 = P.getD (0 + j) 0)) = false := by rw [Nat.zero_add, he]; simp
        repeat first | refine EffG.mk (obA ?_) | refine obA ?_ | refine chkA ?_ | refine Br.no rfl ?_ | refine Br.yes rfl ?_
        refine Br.no hz ?_
        repeat first | refine EffG.mk (obA ?_) | refine obA ?_ | refine chkA ?_
        refine nextA (j + 1) [0, 1, 2, 3, 4, 5, 6, 7, 8, 9, 10, 11, 12, 13, 14, 15, 16] viewA
      · have hq : decide ((j : Int) < 4096 + 512 * (((n0 % 20#8).setWidth 32).toNat : Int)) = false := decide_eq_false (by omega)
        rw [hq]
        by_cases p2 : 4608 + 512 * ((n0 % 20#8).setWidth 32).toNat ≤ j
        · have he := hSo2 j (.inr p2)
          have hz : (!decide (S2.getD (0 + j) 0 = P.getD (0 + j) 0)) = false := by rw [Nat.zero_add, he]; simp
          have hq2 : decide ((j : Int) ≥ 4608 + 512 * (((n0 % 20#8).setWidth 32).toNat : Int)) = true := decide_eq_true (by omega)
          repeat first | refine EffG.mk (obA ?_) | refine obA ?_ | refine chkA ?_ | refine Br.no rfl ?_ | refine Br.yes rfl ?_
          rw [show decide (4608 + 512 * (((n0 % 20#8).setWidth 32).toNat : Int) ≤ (j : Int)) = true from hq2]
          repeat first | refine EffG.mk (obA ?_) | refine obA ?_ | refine chkA ?_ | refine Br.no rfl ?_ | refine Br.yes rfl ?_
          refine Br.no hz ?_
          repeat first | refine EffG.mk (obA ?_) | refine obA ?_ | refine chkA ?_
          refine nextA (j + 1) [0, 1, 2, 3, 4, 5, 6, 7, 8, 9, 10, 11, 12, 13, 14, 15, 16] viewA
        · have hq2 : decide (4608 + 512 * (((n0 % 20#8).setWidth 32).toNat : Int) ≤ (j : Int)) = false := decide_eq_false (by omega)
          repeat first | refine EffG.mk (obA ?_) | refine obA ?_ | refine chkA ?_ | refine Br.no rfl ?_ | refine Br.yes rfl ?_
          rw [hq2]
          repeat first | refine EffG.mk (obA ?_) | refine obA ?_ | refine chkA ?_ | refine Br.no rfl ?_ | refine Br.yes rfl ?_
          refine nextA (j + 1) [0, 1, 2, 3, 4, 5, 6, 7, 8, 9, 10, 11, 12, 13, 14, 15, 16] viewA
    · repeat first | refine EffG.mk (obA ?_) | refine obA ?_ | refine chkA ?_ | refine brN ?_
      refine callA awake16_ac [] ?_
      repeat first | refine EffG.mk (obA ?_) | refine obA ?_ | refine chkA ?_
      refine retA [0]
end Go.Proofs.YtodkhgofmgaafaaDoor.Av

namespace Go.Proofs.YtodkhgofmgaafaaDoor.Av
open Go
set_option linter.all false
set_option maxRecDepth 3000

theorem sapart2_ac (K bs : List (BitVec 8)) (n0 n1 : BitVec 8) (k c : Nat) (hK : K.length = 32) (hbs : bs.length = k) (hn : n1.toNat % 3 = 2) (hk : k ≤ 140737488355328) :
    AC Tryd.prog 9 [.u8s K, .u8s [n0, n1], .slice 0 [] 0 k (some c)] 1 [(0, some ⟨.row .cell, .u8s bs, false⟩), gR] ⟨.bool true, [], []⟩ := by
  have hb := begun_ac
  have hd := dbytes_ac 32768 16384 none 16384 none [] 0 (zB 16384) (by simp) (by decide)
  refine acA tab mix Tryd.func9 {} ?_
  repeat first | refine EffG.mk (obA ?_) | refine obA ?_ | refine chkA ?_ | refine brY ?_ | refine brN ?_
  refine callA hb [] ?_
  repeat first | refine EffG.mk (obA ?_) | refine obA ?_ | refine chkA ?_ | refine brY ?_ | refine brN ?_
  refine callA hd [3, 4, 5, 5] ?_
  repeat first | refine EffG.mk (obA ?_) | refine obA ?_ | refine chkA ?_ | refine brY ?_ | refine brN ?_
  refine loopG Nat (fun i => [(3, .ptr 1 []), (4, .ptr 2 []), (7, .ptr 3 []), (8, .slice 6 [] 0 16384 none), (9, .i64 i), (2, .slice 0 [] 0 (min (k : Int) 512).toNat (some c))])
    (fun i => [(0, some ⟨.row .cell, .u8s bs, false⟩), gR, (1, some ⟨.arr 32 .cell, .u8s K, true⟩), (2, some ⟨.arr 2 .cell, .u8s [n0, n1], true⟩), (3, some ⟨tDv, .node [.i64 (32768 : Nat), .slice 4 [] 0 16384 none, .slice 5 [] 0 16384 none, .nilslice, .i64 (0 : Nat), .bool false, .nilptr], true⟩), (6, some ⟨.row .cell, .u8s (patF i), true⟩)])
    7 (fun i => i ≤ 16384) (fun i => 16384 - i) 0 [0, 1, 2, 3, 4, 5, 6] (Nat.zero_le _) viewA ?_
  intro i hi
  have hpl := patF_length i
  have hmod : Int.tmod (i : Int) 251 = ((i % 251 : Nat) : Int) := rfl
  repeat first | refine EffG.mk (obA ?_) | refine obA ?_ | refine chkA ?_
  refine Br.split (fun h => ?_) (fun h => ?_)
  · have hi : i < 16384 := by have := of_decide_eq_true h; omega
    repeat first | refine EffG.mk (obA ?_) | refine obA ?_ | refine chkA ?_
    refine nextA (i + 1) [0, 1, 2, 3, 4, 5, 6] viewA
  · generalize patF i = P at hpl ⊢
    have hld := dload2_ac 32768 16384 0 16384 16384 0 none none [] P none (by omega) (by decide) (by decide)
    rw [List.drop_zero, List.take_of_length_le (by omega)] at hld
    have hnw := snew_ac 8 K (by decide) (by decide) hK geo_ne
    have h1 := rows_sched (labF K oneS) (labF_length _ _)
    have h2 := rows_sched (labF K twoS) (labF_length _ _)
    have ht := labF_length K tagS
    generalize labF K tagS = tg at hnw ht
    generalize schedF (labF K oneS) = k1 at hnw h1
    generalize schedF (labF K twoS) = k2 at hnw h2
    have ha : ((n0 % 20#8).setWidth 32).toNat < 20 := by
      rw [BitVec.toNat_setWidth, BitVec.toNat_umod]
      have := Nat.mod_lt n0.toNat (show 0 < (20#8).toNat by decide)
      have e : (20#8).toNat = 20 := rfl
      rw [e] at *
      exact Nat.lt_of_le_of_lt (Nat.mod_le _ _) this
    have hkk : (min (k : Int) 512).toNat ≤ 512 ∧ (min (k : Int) 512).toNat ≤ k := by omega
    have hpp := sputpage_ac 8 tg k1 k2 32768 16384 none 16384 none [] 0 P ((n0 % 20#8).setWidth 32) bs 0 (min (k : Int) 512).toNat (some c) (by decide) (by decide) ht (by simp) hpl (by omega) (by omega) (by omega) hkk.1 (by decide) (by decide) (by decide) (by decide)
    have hQ : (pad512 ((bs.drop 0).take (min (k : Int) 512).toNat)).length = 512 := by
      rw [pad512, List.length_append, List.length_replicate, List.length_take, List.length_drop]; omega
    have hy := pageF_length (pad512 ((bs.drop 0).take (min (k : Int) 512).toNat))
    generalize pad512 ((bs.drop 0).take (min (k : Int) 512).toNat) = Q at hpp hQ hy
    generalize pageF Q = y at hpp hy
    have hSl : (layF P Q (512 * (8 + ((n0 % 20#8).setWidth 32).toNat))).length = 16384 := by rw [layF_length (by omega), hpl]
    have hSo : ∀ j, (j < 4096 + 512 * ((n0 % 20#8).setWidth 32).toNat ∨ 4608 + 512 * ((n0 % 20#8).setWidth 32).toNat ≤ j) → (layF P Q (512 * (8 + ((n0 % 20#8).setWidth 32).toNat))).getD j 0 = P.getD j 0 := fun j hj => by
      rw [layF_getD (by omega), if_neg (by omega)]
    generalize layF P Q (512 * (8 + ((n0 % 20#8).setWidth 32).toNat)) = S1 at hpp hSl hSo
    have hBl : (List.take (0 + (min (k : Int) 512).toNat) (List.take 0 ([] : List (BitVec 8)) ++ List.take (min (k : Int) 512).toNat bs) ++ List.replicate (512 - ((min (k : Int) 512).toNat : Int)).toNat 0).length = 512 := by
      simp only [List.length_append, List.length_take, List.length_replicate, List.length_nil]; omega
    have hpd := sputdata_ac 8 tg k1 k2 32768 16384 none 16384 none [loF S1 (8 + ((n0 % 20#8).setWidth 32).toNat)] 1 S1 ((n0 % 20#8).setWidth 32) (List.take (0 + (min (k : Int) 512).toNat) (List.take 0 ([] : List (BitVec 8)) ++ List.take (min (k : Int) 512).toNat bs) ++ List.replicate (512 - ((min (k : Int) 512).toNat : Int)).toNat 0) 0 none h1 h2 (by decide) (by decide) ht (by intro x hx; rcases List.mem_singleton.1 hx with rfl; exact loB_length S1 _ (by omega)) hSl (by omega) (by omega) (by omega) (by omega) (by decide) (by decide) (by simp) (by decide)
    have hQ2 := sealF_length (k1 := k1) k2 (o := 0) ((n0 % 20#8).setWidth 32) (Nat.le_of_eq (show 0 + 512 = _ from by rw [hBl]))
    generalize sealF k1 k2 (List.take (0 + (min (k : Int) 512).toNat) (List.take 0 ([] : List (BitVec 8)) ++ List.take (min (k : Int) 512).toNat bs) ++ List.replicate (512 - ((min (k : Int) 512).toNat : Int)).toNat 0) 0 ((n0 % 20#8).setWidth 32) = Q2 at hpd hQ2
    have hy2 := leafF_length tg (((n0 % 20#8).setWidth 32) + 1) Q2
    generalize leafF tg (((n0 % 20#8).setWidth 32) + 1) Q2 = y2 at hpd hy2
    have hSl2 : (layF S1 Q2 (512 * (8 + ((n0 % 20#8).setWidth 32).toNat))).length = 16384 := by rw [layF_length (by omega), hSl]
    have hSo2 : ∀ j, (j < 4096 + 512 * ((n0 % 20#8).setWidth 32).toNat ∨ 4608 + 512 * ((n0 % 20#8).setWidth 32).toNat ≤ j) → (layF S1 Q2 (512 * (8 + ((n0 % 20#8).setWidth 32).toNat))).getD j 0 = P.getD j 0 := fun j hj => by
      rw [layF_getD (by omega), if_neg (by omega), hSo j hj]
    generalize layF S1 Q2 (512 * (8 + ((n0 % 20#8).setWidth 32).toNat)) = S2 at hpd hSl2 hSo2
    have hL : (512 : Nat) = 0 + (min (k : Int) 512).toNat + (512 - ((min (k : Int) 512).toNat : Int)).toNat := by omega
    have hn1 : decide (n1 % 3#8 = 1#8) = false := decide_eq_false (fun e => by
      have := congrArg BitVec.toNat e
      rw [BitVec.toNat_umod] at this
      have e3 : (3#8).toNat = 3 := rfl
      have e1 : (1#8).toNat = 1 := rfl
      rw [e3, e1] at this
      omega)
    have hn2 : decide (n1 % 3#8 = 2#8) = true := decide_eq_true (by
      apply BitVec.eq_of_toNat_eq
      rw [BitVec.toNat_umod]
      exact hn)
    repeat first | refine EffG.mk (obA ?_) | refine obA ?_ | refine chkA ?_
    refine callA hld [3, 4, 5, 5, 6] ?_
    repeat first | refine EffG.mk (obA ?_) | refine obA ?_ | refine chkA ?_ | refine brY ?_ | refine brN ?_
    refine callA hnw [3] ?_
    repeat first | refine EffG.mk (obA ?_) | refine obA ?_ | refine chkA ?_ | refine brY ?_ | refine brN ?_
    refine callA hpp [3, 7, 8, 8, 9, 10, 11, 12, 0] ?_
    repeat first | refine EffG.mk (obA ?_) | refine obA ?_ | refine chkA ?_
    refine brN ?_ hn1
    repeat first | refine EffG.mk (obA ?_) | refine obA ?_ | refine chkA ?_
    refine Br.yes hn2 ?_
    repeat first | refine EffG.mk (obA ?_) | refine obA ?_ | refine chkA ?_
    refine ⟨0, ?_⟩
    repeat first | refine EffG.mk (obA ?_) | refine obA ?_ | refine chkA ?_
    refine ⟨0, ?_⟩
    repeat first | refine EffG.mk (obA ?_) | refine obA ?_ | refine chkA ?_
    refine callA hpd [3, 7, 8, 13, 9, 10, 11, 12, 17] ?_ (hargs := congrArg (fun l => [D.ptr 9 [], .u32 ((n0 % 20#8).setWidth 32), .slice 17 [] 0 l none]) hL.symm)
    repeat first | refine EffG.mk (obA ?_) | refine obA ?_ | refine chkA ?_
    have hd2 := dbytes_ac 32768 16384 none 16384 none ([loF S1 (8 + ((n0 % 20#8).setWidth 32).toNat)] ++ [loF S2 (8 + ((n0 % 20#8).setWidth 32).toNat)]) 2 S2 hSl2 (by decide)
    refine callA hd2 [3, 7, 8, 18] ?_
    repeat first | refine EffG.mk (obA ?_) | refine obA ?_ | refine chkA ?_ | refine brN ?_ | refine Br.yes rfl ?_
    refine loopG Nat (fun j => [(8, .slice 6 [] 0 16384 none), (11, .u32 ((n0 % 20#8).setWidth 32)), (14, .slice 19 [] 0 16384 none), (15, .i64 j)])
      (fun j => [(0, some ⟨.row .cell, .u8s bs, false⟩), gR, (6, some ⟨.row .cell, .u8s P, true⟩), (19, some ⟨.row .cell, .u8s S2, true⟩)])
      20 (fun j => j ≤ 16384) (fun j => 16384 - j) 0 [0, 1, 2, 3, 4, 5, 6, 7, 8, 9, 10, 11, 12, 13, 14, 15, 16, 17, 18, 19] (Nat.zero_le _) viewA ?_
    intro j hj
    repeat first | refine EffG.mk (obA ?_) | refine obA ?_ | refine chkA ?_
    refine Br.split (fun h => ?_) (fun h => ?_)
    · have hj : j < 16384 := by have := of_decide_eq_true h; omega
      repeat first | refine EffG.mk (obA ?_) | refine obA ?_ | refine chkA ?_
      by_cases p1 : j < 4096 + 512 * ((n0 % 20#8).setWidth 32).toNat
      · have he := hSo2 j (.inl p1)
        have hq : decide ((j : Int) < 4096 + 512 * (((n0 % 20#8).setWidth 32).toNat : Int)) = true := decide_eq_true (by omega)
        rw [hq]
        have hz : (!decide (S2.getD (0 + j) 0 = P.getD (0 + j) 0)) = false := by rw [Nat.zero_add, he]; simp
        repeat first | refine EffG.mk (obA ?_) | refine obA ?_ | refine chkA ?_ | refine Br.no rfl ?_ | refine Br.yes rfl ?_
        refine Br.no hz ?_
        repeat first | refine EffG.mk (obA ?_) | refine obA ?_ | refine chkA ?_
        refine nextA (j + 1) [0, 1, 2, 3, 4, 5, 6, 7, 8, 9, 10, 11, 12, 13, 14, 15, 16, 17, 18, 19] viewA
      · have hq : decide ((j : Int) < 4096 + 512 * (((n0 % 20#8).setWidth 32).toNat : Int)) = false := decide_eq_false (by omega)
        rw [hq]
        by_cases p2 : 4608 + 512 * ((n0 % 20#8).setWidth 32).toNat ≤ j
        · have he := hSo2 j (.inr p2)
          have hz : (!decide (S2.getD (0 + j) 0 = P.getD (0 + j) 0)) = false := by rw [Nat.zero_add, he]; simp
          have hq2 : decide ((j : Int) ≥ 4608 + 512 * (((n0 % 20#8).setWidth 32).toNat : Int)) = true := decide_eq_true (by omega)
          repeat first | refine EffG.mk (obA ?_) | refine obA ?_ | refine chkA ?_ | refine Br.no rfl ?_ | refine Br.yes rfl ?_
          rw [show decide (4608 + 512 * (((n0 % 20#8).setWidth 32).toNat : Int) ≤ (j : Int)) = true from hq2]
          repeat first | refine EffG.mk (obA ?_) | refine obA ?_ | refine chkA ?_ | refine Br.no rfl ?_ | refine Br.yes rfl ?_
          refine Br.no hz ?_
          repeat first | refine EffG.mk (obA ?_) | refine obA ?_ | refine chkA ?_
          refine nextA (j + 1) [0, 1, 2, 3, 4, 5, 6, 7, 8, 9, 10, 11, 12, 13, 14, 15, 16, 17, 18, 19] viewA
        · have hq2 : decide (4608 + 512 * (((n0 % 20#8).setWidth 32).toNat : Int) ≤ (j : Int)) = false := decide_eq_false (by omega)
          repeat first | refine EffG.mk (obA ?_) | refine obA ?_ | refine chkA ?_ | refine Br.no rfl ?_ | refine Br.yes rfl ?_
          rw [hq2]
          repeat first | refine EffG.mk (obA ?_) | refine obA ?_ | refine chkA ?_ | refine Br.no rfl ?_ | refine Br.yes rfl ?_
          refine nextA (j + 1) [0, 1, 2, 3, 4, 5, 6, 7, 8, 9, 10, 11, 12, 13, 14, 15, 16, 17, 18, 19] viewA
    · repeat first | refine EffG.mk (obA ?_) | refine obA ?_ | refine chkA ?_ | refine brN ?_
      refine callA awake16_ac [] ?_
      repeat first | refine EffG.mk (obA ?_) | refine obA ?_ | refine chkA ?_
      refine retA [0]
end Go.Proofs.YtodkhgofmgaafaaDoor.Av

namespace Go.Proofs.YtodkhgofmgaafaaDoor.Av
open Go
set_option linter.all false
set_option maxRecDepth 3000

/-! SpaceApart, with no bytes at all -/
theorem sapartz_ac (K bs : List (BitVec 8)) (n0 n1 : BitVec 8) (hK : K.length = 32) (hn : n1.toNat % 3 = 0) :
    AC Tryd.prog 9 [.u8s K, .u8s [n0, n1], .nilslice] 1 [(0, some ⟨.row .cell, .u8s bs, false⟩), gR] ⟨.bool true, [], []⟩ := by
  have hb := begun_ac
  have hd := dbytes_ac 32768 16384 none 16384 none [] 0 (zB 16384) (by simp) (by decide)
  refine acA tab mix Tryd.func9 {} ?_
  repeat first | refine EffG.mk (obA ?_) | refine obA ?_ | refine chkA ?_ | refine brY ?_ | refine brN ?_
  refine callA hb [] ?_
  repeat first | refine EffG.mk (obA ?_) | refine obA ?_ | refine chkA ?_ | refine brY ?_ | refine brN ?_
  refine callA hd [3, 4, 5, 5] ?_
  repeat first | refine EffG.mk (obA ?_) | refine obA ?_ | refine chkA ?_ | refine brY ?_ | refine brN ?_
  refine loopG Nat (fun i => [(3, .ptr 1 []), (4, .ptr 2 []), (7, .ptr 3 []), (8, .slice 6 [] 0 16384 none), (9, .i64 i), (2, .nilslice)])
    (fun i => [(0, some ⟨.row .cell, .u8s bs, false⟩), gR, (1, some ⟨.arr 32 .cell, .u8s K, true⟩), (2, some ⟨.arr 2 .cell, .u8s [n0, n1], true⟩), (3, some ⟨tDv, .node [.i64 (32768 : Nat), .slice 4 [] 0 16384 none, .slice 5 [] 0 16384 none, .nilslice, .i64 (0 : Nat), .bool false, .nilptr], true⟩), (6, some ⟨.row .cell, .u8s (patF i), true⟩)])
    7 (fun i => i ≤ 16384) (fun i => 16384 - i) 0 [0, 1, 2, 3, 4, 5, 6] (Nat.zero_le _) viewA ?_
  intro i hi
  have hpl := patF_length i
  have hmod : Int.tmod (i : Int) 251 = ((i % 251 : Nat) : Int) := rfl
  repeat first | refine EffG.mk (obA ?_) | refine obA ?_ | refine chkA ?_
  refine Br.split (fun h => ?_) (fun h => ?_)
  · have hi : i < 16384 := by have := of_decide_eq_true h; omega
    repeat first | refine EffG.mk (obA ?_) | refine obA ?_ | refine chkA ?_
    refine nextA (i + 1) [0, 1, 2, 3, 4, 5, 6] viewA
  · generalize patF i = P at hpl ⊢
    have hld := dload2_ac 32768 16384 0 16384 16384 0 none none [] P none (by omega) (by decide) (by decide)
    rw [List.drop_zero, List.take_of_length_le (by omega)] at hld
    have hnw := snew_ac 8 K (by decide) (by decide) hK geo_ne
    have h1 := rows_sched (labF K oneS) (labF_length _ _)
    have h2 := rows_sched (labF K twoS) (labF_length _ _)
    have ht := labF_length K tagS
    generalize labF K tagS = tg at hnw ht
    generalize schedF (labF K oneS) = k1 at hnw h1
    generalize schedF (labF K twoS) = k2 at hnw h2
    have ha : ((n0 % 20#8).setWidth 32).toNat < 20 := by
      rw [BitVec.toNat_setWidth, BitVec.toNat_umod]
      have := Nat.mod_lt n0.toNat (show 0 < (20#8).toNat by decide)
      have e : (20#8).toNat = 20 := rfl
      rw [e] at *
      exact Nat.lt_of_le_of_lt (Nat.mod_le _ _) this
    have hpp := sputpagez_ac 8 tg k1 k2 32768 16384 none 16384 none [] 0 P ((n0 % 20#8).setWidth 32) (by decide) (by decide) ht (by simp) hpl (by omega) (by omega) (by decide) (by decide) (by decide) (by decide)
    have hQ : (zB 512).length = 512 := by simp
    have hy := pageF_length (zB 512)
    generalize zB 512 = Q at hpp hQ hy
    generalize pageF Q = y at hpp hy
    have hSl : (layF P Q (512 * (8 + ((n0 % 20#8).setWidth 32).toNat))).length = 16384 := by rw [layF_length (by omega), hpl]
    have hSo : ∀ j, (j < 4096 + 512 * ((n0 % 20#8).setWidth 32).toNat ∨ 4608 + 512 * ((n0 % 20#8).setWidth 32).toNat ≤ j) → (layF P Q (512 * (8 + ((n0 % 20#8).setWidth 32).toNat))).getD j 0 = P.getD j 0 := fun j hj => by
      rw [layF_getD (by omega), if_neg (by omega)]
    generalize layF P Q (512 * (8 + ((n0 % 20#8).setWidth 32).toNat)) = S1 at hpp hSl hSo
    have hn1 : decide (n1 % 3#8 = 1#8) = false := decide_eq_false (fun e => by
      have := congrArg BitVec.toNat e
      rw [BitVec.toNat_umod] at this
      have e3 : (3#8).toNat = 3 := rfl
      have e1 : (1#8).toNat = 1 := rfl
      rw [e3, e1] at this
      omega)
    have hn2 : decide (n1 % 3#8 = 2#8) = false := decide_eq_false (fun e => by
      have := congrArg BitVec.toNat e
      rw [BitVec.toNat_umod] at this
      have e3 : (3#8).toNat = 3 := rfl
      have e1 : (2#8).toNat = 2 := rfl
      rw [e3, e1] at this
      omega)
    repeat first | refine EffG.mk (obA ?_) | refine obA ?_ | refine chkA ?_
    refine callA hld [3, 4, 5, 5, 6] ?_
    repeat first | refine EffG.mk (obA ?_) | refine obA ?_ | refine chkA ?_ | refine brY ?_ | refine brN ?_
    refine callA hnw [3] ?_
    repeat first | refine EffG.mk (obA ?_) | refine obA ?_ | refine chkA ?_ | refine brY ?_ | refine brN ?_
    refine callA hpp [3, 7, 8, 8, 9, 10, 11, 12] ?_
    repeat first | refine EffG.mk (obA ?_) | refine obA ?_ | refine chkA ?_
    refine brN ?_ hn1
    repeat first | refine EffG.mk (obA ?_) | refine obA ?_ | refine chkA ?_
    refine brN ?_ hn2
    repeat first | refine EffG.mk (obA ?_) | refine obA ?_ | refine chkA ?_
    have hd2 := dbytes_ac 32768 16384 none 16384 none [loF S1 (8 + ((n0 % 20#8).setWidth 32).toNat)] 1 S1 hSl (by decide)
    refine callA hd2 [3, 7, 8, 13] ?_
    repeat first | refine EffG.mk (obA ?_) | refine obA ?_ | refine chkA ?_ | refine brN ?_ | refine Br.yes rfl ?_
    refine loopG Nat (fun j => [(8, .slice 6 [] 0 16384 none), (11, .u32 ((n0 % 20#8).setWidth 32)), (14, .slice 15 [] 0 16384 none), (15, .i64 j)])
      (fun j => [(0, some ⟨.row .cell, .u8s bs, false⟩), gR, (6, some ⟨.row .cell, .u8s P, true⟩), (15, some ⟨.row .cell, .u8s S1, true⟩)])
      16 (fun j => j ≤ 16384) (fun j => 16384 - j) 0 [0, 1, 2, 3, 4, 5, 6, 7, 8, 9, 10, 11, 12, 13, 14, 15] (Nat.zero_le _) viewA ?_
    intro j hj
    repeat first | refine EffG.mk (obA ?_) | refine obA ?_ | refine chkA ?_
    refine Br.split (fun h => ?_) (fun h => ?_)
    · have hj : j < 16384 := by have := of_decide_eq_true h; omega
      repeat first | refine EffG.mk (obA ?_) | refine obA ?_ | refine chkA ?_
      by_cases p1 : j < 4096 + 512 * ((n0 % 20#8).setWidth 32).toNat
      · have he := hSo j (.inl p1)
        have hq : decide ((j : Int) < 4096 + 512 * (((n0 % 20#8).setWidth 32).toNat : Int)) = true := decide_eq_true (by omega)
        rw [hq]
        have hz : (!decide (S1.getD (0 + j) 0 = P.getD (0 + j) 0)) = false := by rw [Nat.zero_add, he]; simp
        repeat first | refine EffG.mk (obA ?_) | refine obA ?_ | refine chkA ?_ | refine Br.no rfl ?_ | refine Br.yes rfl ?_
        refine Br.no hz ?_
        repeat first | refine EffG.mk (obA ?_) | refine obA ?_ | refine chkA ?_
        refine nextA (j + 1) [0, 1, 2, 3, 4, 5, 6, 7, 8, 9, 10, 11, 12, 13, 14, 15] viewA
      · have hq : decide ((j : Int) < 4096 + 512 * (((n0 % 20#8).setWidth 32).toNat : Int)) = false := decide_eq_false (by omega)
        rw [hq]
        by_cases p2 : 4608 + 512 * ((n0 % 20#8).setWidth 32).toNat ≤ j
        · have he := hSo j (.inr p2)
          have hz : (!decide (S1.getD (0 + j) 0 = P.getD (0 + j) 0)) = false := by rw [Nat.zero_add, he]; simp
          have hq2 : decide ((j : Int) ≥ 4608 + 512 * (((n0 % 20#8).setWidth 32).toNat : Int)) = true := decide_eq_true (by omega)
          repeat first | refine EffG.mk (obA ?_) | refine obA ?_ | refine chkA ?_ | refine Br.no rfl ?_ | refine Br.yes rfl ?_
          rw [show decide (4608 + 512 * (((n0 % 20#8).setWidth 32).toNat : Int) ≤ (j : Int)) = true from hq2]
          repeat first | refine EffG.mk (obA ?_) | refine obA ?_ | refine chkA ?_ | refine Br.no rfl ?_ | refine Br.yes rfl ?_
          refine Br.no hz ?_
          repeat first | refine EffG.mk (obA ?_) | refine obA ?_ | refine chkA ?_
          refine nextA (j + 1) [0, 1, 2, 3, 4, 5, 6, 7, 8, 9, 10, 11, 12, 13, 14, 15] viewA
        · have hq2 : decide (4608 + 512 * (((n0 % 20#8).setWidth 32).toNat : Int) ≤ (j : Int)) = false := decide_eq_false (by omega)
          repeat first | refine EffG.mk (obA ?_) | refine obA ?_ | refine chkA ?_ | refine Br.no rfl ?_ | refine Br.yes rfl ?_
          rw [hq2]
          repeat first | refine EffG.mk (obA ?_) | refine obA ?_ | refine chkA ?_ | refine Br.no rfl ?_ | refine Br.yes rfl ?_
          refine nextA (j + 1) [0, 1, 2, 3, 4, 5, 6, 7, 8, 9, 10, 11, 12, 13, 14, 15] viewA
    · repeat first | refine EffG.mk (obA ?_) | refine obA ?_ | refine chkA ?_ | refine brN ?_
      refine callA awake16_ac [] ?_
      repeat first | refine EffG.mk (obA ?_) | refine obA ?_ | refine chkA ?_
      refine retA [0]
theorem sapartz1_ac (K bs : List (BitVec 8)) (n0 n1 : BitVec 8) (hK : K.length = 32) (hn : n1.toNat % 3 = 1) :
    AC Tryd.prog 9 [.u8s K, .u8s [n0, n1], .nilslice] 1 [(0, some ⟨.row .cell, .u8s bs, false⟩), gR] ⟨.bool true, [], []⟩ := by
  have hb := begun_ac
  have hd := dbytes_ac 32768 16384 none 16384 none [] 0 (zB 16384) (by simp) (by decide)
  refine acA tab mix Tryd.func9 {} ?_
  repeat first | refine EffG.mk (obA ?_) | refine obA ?_ | refine chkA ?_ | refine brY ?_ | refine brN ?_
  refine callA hb [] ?_
  repeat first | refine EffG.mk (obA ?_) | refine obA ?_ | refine chkA ?_ | refine brY ?_ | refine brN ?_
  refine callA hd [3, 4, 5, 5] ?_
  repeat first | refine EffG.mk (obA ?_) | refine obA ?_ | refine chkA ?_ | refine brY ?_ | refine brN ?_
  refine loopG Nat (fun i => [(3, .ptr 1 []), (4, .ptr 2 []), (7, .ptr 3 []), (8, .slice 6 [] 0 16384 none), (9, .i64 i), (2, .nilslice)])
    (fun i => [(0, some ⟨.row .cell, .u8s bs, false⟩), gR, (1, some ⟨.arr 32 .cell, .u8s K, true⟩), (2, some ⟨.arr 2 .cell, .u8s [n0, n1], true⟩), (3, some ⟨tDv, .node [.i64 (32768 : Nat), .slice 4 [] 0 16384 none, .slice 5 [] 0 16384 none, .nilslice, .i64 (0 : Nat), .bool false, .nilptr], true⟩), (6, some ⟨.row .cell, .u8s (patF i), true⟩)])
    7 (fun i => i ≤ 16384) (fun i => 16384 - i) 0 [0, 1, 2, 3, 4, 5, 6] (Nat.zero_le _) viewA ?_
  intro i hi
  have hpl := patF_length i
  have hmod : Int.tmod (i : Int) 251 = ((i % 251 : Nat) : Int) := rfl
  repeat first | refine EffG.mk (obA ?_) | refine obA ?_ | refine chkA ?_
  refine Br.split (fun h => ?_) (fun h => ?_)
  · have hi : i < 16384 := by have := of_decide_eq_true h; omega
    repeat first | refine EffG.mk (obA ?_) | refine obA ?_ | refine chkA ?_
    refine nextA (i + 1) [0, 1, 2, 3, 4, 5, 6] viewA
  · generalize patF i = P at hpl ⊢
    have hld := dload2_ac 32768 16384 0 16384 16384 0 none none [] P none (by omega) (by decide) (by decide)
    rw [List.drop_zero, List.take_of_length_le (by omega)] at hld
    have hnw := snew_ac 8 K (by decide) (by decide) hK geo_ne
    have h1 := rows_sched (labF K oneS) (labF_length _ _)
    have h2 := rows_sched (labF K twoS) (labF_length _ _)
    have ht := labF_length K tagS
    generalize labF K tagS = tg at hnw ht
    generalize schedF (labF K oneS) = k1 at hnw h1
    generalize schedF (labF K twoS) = k2 at hnw h2
    have ha : ((n0 % 20#8).setWidth 32).toNat < 20 := by
      rw [BitVec.toNat_setWidth, BitVec.toNat_umod]
      have := Nat.mod_lt n0.toNat (show 0 < (20#8).toNat by decide)
      have e : (20#8).toNat = 20 := rfl
      rw [e] at *
      exact Nat.lt_of_le_of_lt (Nat.mod_le _ _) this
    have hpp := sputpagez_ac 8 tg k1 k2 32768 16384 none 16384 none [] 0 P ((n0 % 20#8).setWidth 32) (by decide) (by decide) ht (by simp) hpl (by omega) (by omega) (by decide) (by decide) (by decide) (by decide)
    have hQ : (zB 512).length = 512 := by simp
    have hy := pageF_length (zB 512)
    generalize zB 512 = Q at hpp hQ hy
    generalize pageF Q = y at hpp hy
    have hSl : (layF P Q (512 * (8 + ((n0 % 20#8).setWidth 32).toNat))).length = 16384 := by rw [layF_length (by omega), hpl]
    have hSo : ∀ j, (j < 4096 + 512 * ((n0 % 20#8).setWidth 32).toNat ∨ 4608 + 512 * ((n0 % 20#8).setWidth 32).toNat ≤ j) → (layF P Q (512 * (8 + ((n0 % 20#8).setWidth 32).toNat))).getD j 0 = P.getD j 0 := fun j hj => by
      rw [layF_getD (by omega), if_neg (by omega)]
    generalize layF P Q (512 * (8 + ((n0 % 20#8).setWidth 32).toNat)) = S1 at hpp hSl hSo
    have hpn := sputnode_ac 8 tg k1 k2 32768 16384 none 16384 none [loF S1 (8 + ((n0 % 20#8).setWidth 32).toNat)] 1 S1 ((n0 % 20#8).setWidth 32) 0 0 0 0 0 0 0 0 (zB 32) (zB 32) (zB 32) (zB 32) (zB 32) (zB 32) (zB 32) (zB 32) (by simp) (by simp) (by simp) (by simp) (by simp) (by simp) (by simp) (by simp) (by decide) (by decide) ht (by intro x hx; rcases List.mem_singleton.1 hx with rfl; exact loB_length S1 _ (by omega)) hSl (by omega) (by omega) (by decide) (by decide) (by simp) (by decide)
    have hQ2 : (pad512 (node8B 0 0 0 0 0 0 0 0 (zB 32) (zB 32) (zB 32) (zB 32) (zB 32) (zB 32) (zB 32) (zB 32))).length = 512 := by
      rw [pad512, List.length_append, List.length_replicate, node8B_length (by simp) (by simp) (by simp) (by simp) (by simp) (by simp) (by simp) (by simp)]
    have hy2 := nodeF_length (pad512 (node8B 0 0 0 0 0 0 0 0 (zB 32) (zB 32) (zB 32) (zB 32) (zB 32) (zB 32) (zB 32) (zB 32)))
    generalize pad512 (node8B 0 0 0 0 0 0 0 0 (zB 32) (zB 32) (zB 32) (zB 32) (zB 32) (zB 32) (zB 32) (zB 32)) = Q2 at hpn hQ2 hy2
    generalize nodeF Q2 = y2 at hpn hy2
    have hSl2 : (layF S1 Q2 (512 * (8 + ((n0 % 20#8).setWidth 32).toNat))).length = 16384 := by rw [layF_length (by omega), hSl]
    have hSo2 : ∀ j, (j < 4096 + 512 * ((n0 % 20#8).setWidth 32).toNat ∨ 4608 + 512 * ((n0 % 20#8).setWidth 32).toNat ≤ j) → (layF S1 Q2 (512 * (8 + ((n0 % 20#8).setWidth 32).toNat))).getD j 0 = P.getD j 0 := fun j hj => by
      rw [layF_getD (by omega), if_neg (by omega), hSo j hj]
    generalize layF S1 Q2 (512 * (8 + ((n0 % 20#8).setWidth 32).toNat)) = S2 at hpn hSl2 hSo2
    have hn1 : decide (n1 % 3#8 = 1#8) = true := decide_eq_true (by
      apply BitVec.eq_of_toNat_eq
      rw [BitVec.toNat_umod]
      exact hn)
    have hn2 : decide (n1 % 3#8 = 2#8) = false := decide_eq_false (fun e => by
      have := congrArg BitVec.toNat e
      rw [BitVec.toNat_umod] at this
      have e3 : (3#8).toNat = 3 := rfl
      have e1 : (2#8).toNat = 2 := rfl
      rw [e3, e1] at this
      omega)
    repeat first | refine EffG.mk (obA ?_) | refine obA ?_ | refine chkA ?_
    refine callA hld [3, 4, 5, 5, 6] ?_
    repeat first | refine EffG.mk (obA ?_) | refine obA ?_ | refine chkA ?_ | refine brY ?_ | refine brN ?_
    refine callA hnw [3] ?_
    repeat first | refine EffG.mk (obA ?_) | refine obA ?_ | refine chkA ?_ | refine brY ?_ | refine brN ?_
    refine callA hpp [3, 7, 8, 8, 9, 10, 11, 12] ?_
    repeat first | refine EffG.mk (obA ?_) | refine obA ?_ | refine chkA ?_
    refine Br.yes hn1 ?_
    repeat first | refine EffG.mk (obA ?_) | refine obA ?_ | refine chkA ?_
    refine callA hpn [3, 7, 8, 13, 9, 10, 11, 12] ?_
    repeat first | refine EffG.mk (obA ?_) | refine obA ?_ | refine chkA ?_
    refine brN ?_ hn2
    repeat first | refine EffG.mk (obA ?_) | refine obA ?_ | refine chkA ?_
    have hd2 := dbytes_ac 32768 16384 none 16384 none ([loF S1 (8 + ((n0 % 20#8).setWidth 32).toNat)] ++ [loF S2 (8 + ((n0 % 20#8).setWidth 32).toNat)]) 2 S2 hSl2 (by decide)
    refine callA hd2 [3, 7, 8, 15] ?_
    repeat first | refine EffG.mk (obA ?_) | refine obA ?_ | refine chkA ?_ | refine brN ?_ | refine Br.yes rfl ?_
    refine loopG Nat (fun j => [(8, .slice 6 [] 0 16384 none), (11, .u32 ((n0 % 20#8).setWidth 32)), (14, .slice 16 [] 0 16384 none), (15, .i64 j)])
      (fun j => [(0, some ⟨.row .cell, .u8s bs, false⟩), gR, (6, some ⟨.row .cell, .u8s P, true⟩), (16, some ⟨.row .cell, .u8s S2, true⟩)])
      17 (fun j => j ≤ 16384) (fun j => 16384 - j) 0 [0, 1, 2, 3, 4, 5, 6, 7, 8, 9, 10, 11, 12, 13, 14, 15, 16] (Nat.zero_le _) viewA ?_
    intro j hj
    repeat first | refine EffG.mk (obA ?_) | refine obA ?_ | refine chkA ?_
    refine Br.split (fun h => ?_) (fun h => ?_)
    · have hj : j < 16384 := by have := of_decide_eq_true h; omega
      repeat first | refine EffG.mk (obA ?_) | refine obA ?_ | refine chkA ?_
      by_cases p1 : j < 4096 + 512 * ((n0 % 20#8).setWidth 32).toNat
      · have he := hSo2 j (.inl p1)
        have hq : decide ((j : Int) < 4096 + 512 * (((n0 % 20#8).setWidth 32).toNat : Int)) = true := decide_eq_true (by omega)
        rw [hq]
        have hz : (!decide (S2.getD (0 + j) 0 = P.getD (0 + j) 0)) = false := by rw [Nat.zero_add, he]; simp
        repeat first | refine EffG.mk (obA ?_) | refine obA ?_ | refine chkA ?_ | refine Br.no rfl ?_ | refine Br.yes rfl ?_
        refine Br.no hz ?_
        repeat first | refine EffG.mk (obA ?_) | refine obA ?_ | refine chkA ?_
        refine nextA (j + 1) [0, 1, 2, 3, 4, 5, 6, 7, 8, 9, 10, 11, 12, 13, 14, 15, 16] viewA
      · have hq : decide ((j : Int) < 4096 + 512 * (((n0 % 20#8).setWidth 32).toNat : Int)) = false := decide_eq_false (by omega)
        rw [hq]
        by_cases p2 : 4608 + 512 * ((n0 % 20#8).setWidth 32).toNat ≤ j
        · have he := hSo2 j (.inr p2)
          have hz : (!decide (S2.getD (0 + j) 0 = P.getD (0 + j) 0)) = false := by rw [Nat.zero_add, he]; simp
          have hq2 : decide ((j : Int) ≥ 4608 + 512 * (((n0 % 20#8).setWidth 32).toNat : Int)) = true := decide_eq_true (by omega)
          repeat first | refine EffG.mk (obA ?_) | refine obA ?_ | refine chkA ?_ | refine Br.no rfl ?_ | refine Br.yes rfl ?_
          rw [show decide (4608 + 512 * (((n0 % 20#8).setWidth 32).toNat : Int) ≤ (j : Int)) = true from hq2]
          repeat first | refine EffG.mk (obA ?_) | refine obA ?_ | refine chkA ?_ | refine Br.no rfl ?_ | refine Br.yes rfl ?_
          refine Br.no hz ?_
          repeat first | refine EffG.mk (obA ?_) | refine obA ?_ | refine chkA ?_
          refine nextA (j + 1) [0, 1, 2, 3, 4, 5, 6, 7, 8, 9, 10, 11, 12, 13, 14, 15, 16] viewA
        · have hq2 : decide (4608 + 512 * (((n0 % 20#8).setWidth 32).toNat : Int) ≤ (j : Int)) = false := decide_eq_false (by omega)
          repeat first | refine EffG.mk (obA ?_) | refine obA ?_ | refine chkA ?_ | refine Br.no rfl ?_ | refine Br.yes rfl ?_
          rw [hq2]
          repeat first | refine EffG.mk (obA ?_) | refine obA ?_ | refine chkA ?_ | refine Br.no rfl ?_ | refine Br.yes rfl ?_
          refine nextA (j + 1) [0, 1, 2, 3, 4, 5, 6, 7, 8, 9, 10, 11, 12, 13, 14, 15, 16] viewA
    · repeat first | refine EffG.mk (obA ?_) | refine obA ?_ | refine chkA ?_ | refine brN ?_
      refine callA awake16_ac [] ?_
      repeat first | refine EffG.mk (obA ?_) | refine obA ?_ | refine chkA ?_
      refine retA [0]
end Go.Proofs.YtodkhgofmgaafaaDoor.Av

namespace Go.Proofs.YtodkhgofmgaafaaDoor.Av
open Go
set_option linter.all false
set_option maxRecDepth 3000

theorem sapartz2_ac (K bs : List (BitVec 8)) (n0 n1 : BitVec 8) (hK : K.length = 32) (hn : n1.toNat % 3 = 2) :
    AC Tryd.prog 9 [.u8s K, .u8s [n0, n1], .nilslice] 1 [(0, some ⟨.row .cell, .u8s bs, false⟩), gR] ⟨.bool true, [], []⟩ := by
  have hb := begun_ac
  have hd := dbytes_ac 32768 16384 none 16384 none [] 0 (zB 16384) (by simp) (by decide)
  refine acA tab mix Tryd.func9 {} ?_
  repeat first | refine EffG.mk (obA ?_) | refine obA ?_ | refine chkA ?_ | refine brY ?_ | refine brN ?_
  refine callA hb [] ?_
  repeat first | refine EffG.mk (obA ?_) | refine obA ?_ | refine chkA ?_ | refine brY ?_ | refine brN ?_
  refine callA hd [3, 4, 5, 5] ?_
  repeat first | refine EffG.mk (obA ?_) | refine obA ?_ | refine chkA ?_ | refine brY ?_ | refine brN ?_
  refine loopG Nat (fun i => [(3, .ptr 1 []), (4, .ptr 2 []), (7, .ptr 3 []), (8, .slice 6 [] 0 16384 none), (9, .i64 i), (2, .nilslice)])
    (fun i => [(0, some ⟨.row .cell, .u8s bs, false⟩), gR, (1, some ⟨.arr 32 .cell, .u8s K, true⟩), (2, some ⟨.arr 2 .cell, .u8s [n0, n1], true⟩), (3, some ⟨tDv, .node [.i64 (32768 : Nat), .slice 4 [] 0 16384 none, .slice 5 [] 0 16384 none, .nilslice, .i64 (0 : Nat), .bool false, .nilptr], true⟩), (6, some ⟨.row .cell, .u8s (patF i), true⟩)])
    7 (fun i => i ≤ 16384) (fun i => 16384 - i) 0 [0, 1, 2, 3, 4, 5, 6] (Nat.zero_le _) viewA ?_
  intro i hi
  have hpl := patF_length i
  have hmod : Int.tmod (i : Int) 251 = ((i % 251 : Nat) : Int) := rfl
  repeat first | refine EffG.mk (obA ?_) | refine obA ?_ | refine chkA ?_
  refine Br.split (fun h => ?_) (fun h => ?_)
  · have hi : i < 16384 := by have := of_decide_eq_true h; omega
    repeat first | refine EffG.mk (obA ?_) | refine obA ?_ | refine chkA ?_
    refine nextA (i + 1) [0, 1, 2, 3, 4, 5, 6] viewA
  · generalize patF i = P at hpl ⊢
    have hld := dload2_ac 32768 16384 0 16384 16384 0 none none [] P none (by omega) (by decide) (by decide)
    rw [List.drop_zero, List.take_of_length_le (by omega)] at hld
    have hnw := snew_ac 8 K (by decide) (by decide) hK geo_ne
    have h1 := rows_sched (labF K oneS) (labF_length _ _)
    have h2 := rows_sched (labF K twoS) (labF_length _ _)
    have ht := labF_length K tagS
    generalize labF K tagS = tg at hnw ht
    generalize schedF (labF K oneS) = k1 at hnw h1
    generalize schedF (labF K twoS) = k2 at hnw h2
    have ha : ((n0 % 20#8).setWidth 32).toNat < 20 := by
      rw [BitVec.toNat_setWidth, BitVec.toNat_umod]
      have := Nat.mod_lt n0.toNat (show 0 < (20#8).toNat by decide)
      have e : (20#8).toNat = 20 := rfl
      rw [e] at *
      exact Nat.lt_of_le_of_lt (Nat.mod_le _ _) this
    have hpp := sputpagez_ac 8 tg k1 k2 32768 16384 none 16384 none [] 0 P ((n0 % 20#8).setWidth 32) (by decide) (by decide) ht (by simp) hpl (by omega) (by omega) (by decide) (by decide) (by decide) (by decide)
    have hQ : (zB 512).length = 512 := by simp
    have hy := pageF_length (zB 512)
    generalize zB 512 = Q at hpp hQ hy
    generalize pageF Q = y at hpp hy
    have hSl : (layF P Q (512 * (8 + ((n0 % 20#8).setWidth 32).toNat))).length = 16384 := by rw [layF_length (by omega), hpl]
    have hSo : ∀ j, (j < 4096 + 512 * ((n0 % 20#8).setWidth 32).toNat ∨ 4608 + 512 * ((n0 % 20#8).setWidth 32).toNat ≤ j) → (layF P Q (512 * (8 + ((n0 % 20#8).setWidth 32).toNat))).getD j 0 = P.getD j 0 := fun j hj => by
      rw [layF_getD (by omega), if_neg (by omega)]
    generalize layF P Q (512 * (8 + ((n0 % 20#8).setWidth 32).toNat)) = S1 at hpp hSl hSo
    have hBl : (List.take (0 + 0) (List.take 0 ([] : List (BitVec 8)) ++ List.replicate 0 0) ++ List.replicate ((512 : Int) - ((0 : Nat) : Int)).toNat 0).length = 512 := by
      simp
    have hpd := sputdata_ac 8 tg k1 k2 32768 16384 none 16384 none [loF S1 (8 + ((n0 % 20#8).setWidth 32).toNat)] 1 S1 ((n0 % 20#8).setWidth 32) (List.take (0 + 0) (List.take 0 ([] : List (BitVec 8)) ++ List.replicate 0 0) ++ List.replicate ((512 : Int) - ((0 : Nat) : Int)).toNat 0) 0 none h1 h2 (by decide) (by decide) ht (by intro x hx; rcases List.mem_singleton.1 hx with rfl; exact loB_length S1 _ (by omega)) hSl (by omega) (by omega) (by omega) (by omega) (by decide) (by decide) (by simp) (by decide)
    have hQ2 := sealF_length (k1 := k1) k2 (o := 0) ((n0 % 20#8).setWidth 32) (Nat.le_of_eq (show 0 + 512 = _ from by rw [hBl]))
    generalize sealF k1 k2 (List.take (0 + 0) (List.take 0 ([] : List (BitVec 8)) ++ List.replicate 0 0) ++ List.replicate ((512 : Int) - ((0 : Nat) : Int)).toNat 0) 0 ((n0 % 20#8).setWidth 32) = Q2 at hpd hQ2
    have hy2 := leafF_length tg (((n0 % 20#8).setWidth 32) + 1) Q2
    generalize leafF tg (((n0 % 20#8).setWidth 32) + 1) Q2 = y2 at hpd hy2
    have hSl2 : (layF S1 Q2 (512 * (8 + ((n0 % 20#8).setWidth 32).toNat))).length = 16384 := by rw [layF_length (by omega), hSl]
    have hSo2 : ∀ j, (j < 4096 + 512 * ((n0 % 20#8).setWidth 32).toNat ∨ 4608 + 512 * ((n0 % 20#8).setWidth 32).toNat ≤ j) → (layF S1 Q2 (512 * (8 + ((n0 % 20#8).setWidth 32).toNat))).getD j 0 = P.getD j 0 := fun j hj => by
      rw [layF_getD (by omega), if_neg (by omega), hSo j hj]
    generalize layF S1 Q2 (512 * (8 + ((n0 % 20#8).setWidth 32).toNat)) = S2 at hpd hSl2 hSo2
    have hn1 : decide (n1 % 3#8 = 1#8) = false := decide_eq_false (fun e => by
      have := congrArg BitVec.toNat e
      rw [BitVec.toNat_umod] at this
      have e3 : (3#8).toNat = 3 := rfl
      have e1 : (1#8).toNat = 1 := rfl
      rw [e3, e1] at this
      omega)
    have hn2 : decide (n1 % 3#8 = 2#8) = true := decide_eq_true (by
      apply BitVec.eq_of_toNat_eq
      rw [BitVec.toNat_umod]
      exact hn)
    repeat first | refine EffG.mk (obA ?_) | refine obA ?_ | refine chkA ?_
    refine callA hld [3, 4, 5, 5, 6] ?_
    repeat first | refine EffG.mk (obA ?_) | refine obA ?_ | refine chkA ?_ | refine brY ?_ | refine brN ?_
    refine callA hnw [3] ?_
    repeat first | refine EffG.mk (obA ?_) | refine obA ?_ | refine chkA ?_ | refine brY ?_ | refine brN ?_
    refine callA hpp [3, 7, 8, 8, 9, 10, 11, 12] ?_
    repeat first | refine EffG.mk (obA ?_) | refine obA ?_ | refine chkA ?_
    refine brN ?_ hn1
    repeat first | refine EffG.mk (obA ?_) | refine obA ?_ | refine chkA ?_
    refine Br.yes hn2 ?_
    repeat first | refine EffG.mk (obA ?_) | refine obA ?_ | refine chkA ?_
    refine ⟨0, ?_⟩
    repeat first | refine EffG.mk (obA ?_) | refine obA ?_ | refine chkA ?_
    refine ⟨0, ?_⟩
    repeat first | refine EffG.mk (obA ?_) | refine obA ?_ | refine chkA ?_
    refine callA hpd [3, 7, 8, 13, 9, 10, 11, 12, 17] ?_
    repeat first | refine EffG.mk (obA ?_) | refine obA ?_ | refine chkA ?_
    have hd2 := dbytes_ac 32768 16384 none 16384 none ([loF S1 (8 + ((n0 % 20#8).setWidth 32).toNat)] ++ [loF S2 (8 + ((n0 % 20#8).setWidth 32).toNat)]) 2 S2 hSl2 (by decide)
    refine callA hd2 [3, 7, 8, 18] ?_
    repeat first | refine EffG.mk (obA ?_) | refine obA ?_ | refine chkA ?_ | refine brN ?_ | refine Br.yes rfl ?_
    refine loopG Nat (fun j => [(8, .slice 6 [] 0 16384 none), (11, .u32 ((n0 % 20#8).setWidth 32)), (14, .slice 19 [] 0 16384 none), (15, .i64 j)])
      (fun j => [(0, some ⟨.row .cell, .u8s bs, false⟩), gR, (6, some ⟨.row .cell, .u8s P, true⟩), (19, some ⟨.row .cell, .u8s S2, true⟩)])
      20 (fun j => j ≤ 16384) (fun j => 16384 - j) 0 [0, 1, 2, 3, 4, 5, 6, 7, 8, 9, 10, 11, 12, 13, 14, 15, 16, 17, 18, 19] (Nat.zero_le _) viewA ?_
    intro j hj
    repeat first | refine EffG.mk (obA ?_) | refine obA ?_ | refine chkA ?_
    refine Br.split (fun h => ?_) (fun h => ?_)
    · have hj : j < 16384 := by have := of_decide_eq_true h; omega
      repeat first | refine EffG.mk (obA ?_) | refine obA ?_ | refine chkA ?_
      by_cases p1 : j < 4096 + 512 * ((n0 % 20#8).setWidth 32).toNat
      · have he := hSo2 j (.inl p1)
        have hq : decide ((j : Int) < 4096 + 512 * (((n0 % 20#8).setWidth 32).toNat : Int)) = true := decide_eq_true (by omega)
        rw [hq]
        have hz : (!decide (S2.getD (0 + j) 0 = P.getD (0 + j) 0)) = false := by rw [Nat.zero_add, he]; simp
        repeat first | refine EffG.mk (obA ?_) | refine obA ?_ | refine chkA ?_ | refine Br.no rfl ?_ | refine Br.yes rfl ?_
        refine Br.no hz ?_
        repeat first | refine EffG.mk (obA ?_) | refine obA ?_ | refine chkA ?_
        refine nextA (j + 1) [0, 1, 2, 3, 4, 5, 6, 7, 8, 9, 10, 11, 12, 13, 14, 15, 16, 17, 18, 19] viewA
      · have hq : decide ((j : Int) < 4096 + 512 * (((n0 % 20#8).setWidth 32).toNat : Int)) = false := decide_eq_false (by omega)
        rw [hq]
        by_cases p2 : 4608 + 512 * ((n0 % 20#8).setWidth 32).toNat ≤ j
        · have he := hSo2 j (.inr p2)
          have hz : (!decide (S2.getD (0 + j) 0 = P.getD (0 + j) 0)) = false := by rw [Nat.zero_add, he]; simp
          have hq2 : decide ((j : Int) ≥ 4608 + 512 * (((n0 % 20#8).setWidth 32).toNat : Int)) = true := decide_eq_true (by omega)
          repeat first | refine EffG.mk (obA ?_) | refine obA ?_ | refine chkA ?_ | refine Br.no rfl ?_ | refine Br.yes rfl ?_
          rw [show decide (4608 + 512 * (((n0 % 20#8).setWidth 32).toNat : Int) ≤ (j : Int)) = true from hq2]
          repeat first | refine EffG.mk (obA ?_) | refine obA ?_ | refine chkA ?_ | refine Br.no rfl ?_ | refine Br.yes rfl ?_
          refine Br.no hz ?_
          repeat first | refine EffG.mk (obA ?_) | refine obA ?_ | refine chkA ?_
          refine nextA (j + 1) [0, 1, 2, 3, 4, 5, 6, 7, 8, 9, 10, 11, 12, 13, 14, 15, 16, 17, 18, 19] viewA
        · have hq2 : decide (4608 + 512 * (((n0 % 20#8).setWidth 32).toNat : Int) ≤ (j : Int)) = false := decide_eq_false (by omega)
          repeat first | refine EffG.mk (obA ?_) | refine obA ?_ | refine chkA ?_ | refine Br.no rfl ?_ | refine Br.yes rfl ?_
          rw [hq2]
          repeat first | refine EffG.mk (obA ?_) | refine obA ?_ | refine chkA ?_ | refine Br.no rfl ?_ | refine Br.yes rfl ?_
          refine nextA (j + 1) [0, 1, 2, 3, 4, 5, 6, 7, 8, 9, 10, 11, 12, 13, 14, 15, 16, 17, 18, 19] viewA
    · repeat first | refine EffG.mk (obA ?_) | refine obA ?_ | refine chkA ?_ | refine brN ?_
      refine callA awake16_ac [] ?_
      repeat first | refine EffG.mk (obA ?_) | refine obA ?_ | refine chkA ?_
      refine retA [0]
end Go.Proofs.YtodkhgofmgaafaaDoor.Av

namespace Go.Proofs.YtodkhgofmgaafaaDoor.Av
open Go
set_option linter.all false
set_option maxRecDepth 3000

theorem spaceapart_ac (K n bs : List (BitVec 8)) (k : Nat) (x : Option Nat) (hK : K.length = 32) (hn : n.length = 2) (hbs : bs.length = k) (hk : k ≤ 140737488355328) :
    AC Tryd.prog 9 [.u8s K, .u8s n, slD 0 k x] 1 [(0, some ⟨.row .cell, .u8s bs, false⟩), gR] ⟨.bool true, [], []⟩ := by
  match n, hn with
  | [n0, n1], _ =>
    have h3 : n1.toNat % 3 = 0 ∨ n1.toNat % 3 = 1 ∨ n1.toNat % 3 = 2 := by omega
    cases x with
    | none =>
      rcases h3 with h | h | h
      · exact sapartz_ac K bs n0 n1 hK h
      · exact sapartz1_ac K bs n0 n1 hK h
      · exact sapartz2_ac K bs n0 n1 hK h
    | some c =>
      rcases h3 with h | h | h
      · exact sapart_ac K bs n0 n1 k c hK hbs h hk
      · exact sapart1_ac K bs n0 n1 k c hK hbs h hk
      · exact sapart2_ac K bs n0 n1 k c hK hbs h hk
end Go.Proofs.YtodkhgofmgaafaaDoor.Av

namespace Go.Proofs.YtodkhgofmgaafaaDoor.Av
open Go Go.ChangeShapes Go.WideShapes
set_option linter.all false
set_option maxRecDepth 3000

/-! from a contract to a row of a law over plain data -/

theorem calls_bool {P : Program} {f : Nat} {args : List D} (h : AC P f args 0 [] ⟨.bool true, [], []⟩) {W : World} {vals : List Value} (hv : All2 (Rep (fun _ => none)) args vals) :
    Calls P f vals.toArray W fun e W' => e = .returned (.bool true) ∧ W'.os = W.os ∧ W'.output = W.output ∧ W.heap.size ≤ W'.heap.size ∧ ∀ b, b < W.heap.size → W'.heap[b]? = W.heap[b]? := by
  refine (h.2 (fun _ => none) W vals hv ⟨(fun _ _ h => nomatch h), (fun i e h => nomatch h), (fun i j ei ej Li Lj h => nomatch h), (fun i e L h => nomatch h), fun _ _ _ => rfl, Nat.le_refl _, rfl, rfl, rfl⟩ (fun i h => absurd rfl h)).mono fun e W' ⟨v, ρ', he, _, _, hr, hI⟩ => ?_
  have hr : v = .bool true := hr
  subst hr
  exact ⟨he, hI.os, hI.out, hI.size, fun b hb => hI.ext b hb (fun ⟨i, e, L, h, _⟩ => nomatch h)⟩

/-- the same, where the code reads one of the package's variables -/
theorem calls_bool_g {P : Program} {f : Nat} {args : List D} (g : Nat) {T : Ty} {d : D} (h : AC P f args 0 [(gid g, some ⟨T, d, false⟩)] ⟨.bool true, [], []⟩) {W : World} {vals : List Value} (hv : All2 (Rep (fun _ => none)) args vals)
    {L : Loc} (hL : L.blk = g ∧ L.base = 0) (hs : SatE (fun _ => none) ⟨T, d, false⟩ L W) :
    Calls P f vals.toArray W fun e W' => e = .returned (.bool true) ∧ W'.os = W.os ∧ W'.output = W.output ∧ W.heap.size ≤ W'.heap.size ∧ ∀ b, b < W.heap.size → W'.heap[b]? = W.heap[b]? := by
  let ρ0 : Env := fun i => if i = gid g then some L else none
  have hle : Env.le (fun _ => none) ρ0 := fun i L h => by cases h
  have hget : ∀ i e, get [(gid g, some ⟨T, d, false⟩)] i = some e → i = gid g ∧ e = ⟨T, d, false⟩ := fun i e h => by
    rw [get_cons] at h
    split at h
    · rename_i e1; cases h; exact ⟨e1.symm, rfl⟩
    · cases h
  refine (h.2 ρ0 W vals (hv.mono fun a b hab => Rep.mono hle hab)
    ⟨fun g' L' h' => ?_, fun i e hi => ?_, fun i j ei ej Li Lj hi hj hne hr => ?_, fun i e L' hi hr => ?_, fun _ _ _ => rfl, Nat.le_refl _, rfl, rfl, rfl⟩ (fun i hi => ?_)).mono fun e W' ⟨v, ρ', he, _, _, hr, hI⟩ => ?_
  · have h' : (if gid g' = gid g then some L else none) = some L' := h'
    split at h'
    · rename_i e1
      cases h'
      have : g' = g := by unfold gid at e1; omega
      rw [this]; exact hL
    · cases h'
  · obtain ⟨rfl, rfl⟩ := hget i e hi
    exact ⟨L, if_pos rfl, hs.mono hle⟩
  · obtain ⟨_, rfl⟩ := hget i ei hi
    cases hr
  · obtain ⟨_, rfl⟩ := hget i e hi
    cases hr
  · have hi : (if i = gid g then some L else none) ≠ none := hi
    split at hi
    · rename_i e1
      right; rw [e1]; unfold gid; omega
    · exact absurd rfl hi
  · have hr : v = .bool true := hr
    subst hr
    refine ⟨he, hI.os, hI.out, hI.size, fun b hb => hI.ext b hb (fun ⟨i, e, L', h1, h2, _⟩ => ?_)⟩
    obtain ⟨_, rfl⟩ := hget i e h1
    cases h2

/-- a variable that is an array of bytes, as its reading says -/
theorem sat_u8s {P : Program} {W : World} {name : String} {g t e n : Nat} (hg : P.globalNamed name = some g) (hty : (P.globals[g]?).map (·.type) = some t) (ht : P.underlying t = some (.array n e)) (he : P.underlying e = some (.int .u8))
    (hc : P.cellsOf e = 1) (hs : P.cellsOf t = n) {l : List (BitVec 8)} (hl : l.length = n) (h : Lib.VarReads P W name (.agg (l.map fun b => .lit (.int .u8 b.toNat)))) :
    SatE (fun _ => none) ⟨.arr n .cell, .u8s l, false⟩ ⟨g, 0, n, .arr n .cell⟩ W := by
  obtain ⟨g', t', cs, fuel, p, q1, q2, q3, q4⟩ := h
  obtain rfl := Option.some.inj (hg.symm.trans q1)
  obtain rfl := Option.some.inj (hty.symm.trans q2)
  have hcs : cs.toList = (l.map fun b => (b.toNat : Int)).map fun z => Value.int .u8 z := by
    have q5 : DataW.trod (fun _ => ()) P W 0 (fun _ => true) false fuel t cs.toList = some (Lib.tabData .u8 (l.map fun b => (b.toNat : Int)), p) := by
      rw [q4]; unfold Lib.tabData; rw [List.map_map]; rfl
    exact Lib.cells_of_tab ht he hc hs q5
  simp only [World.var?, hg, Option.bind_some] at q3
  split at q3 <;> try contradiction
  rename_i C T fr hC
  cases q3
  have hlen : cs.size = n := by
    have := congrArg List.length hcs
    simpa [hl] using this
  refine ⟨rfl, ?_, hl, cs, T, fr, [], cs.toList, [], hC, by simp, rfl, hlen, ?_, fun h => by cases h⟩
  · exact trivial
  · rw [hcs, List.map_map]
    show All2 _ (l.map D.u8) _
    have : ∀ l : List (BitVec 8), All2 (RepS (fun _ => none)) (l.map D.u8) (l.map ((fun z => Value.int .u8 z) ∘ fun b => (b.toNat : Int))) := by
      intro l
      induction l with
      | nil => trivial
      | cons a r ih => exact ⟨rfl, ih⟩
    exact this l

theorem rep_u8 {ρ : Env} {n : Int} (h : (Lit.int .u8 n).wf = true) : Rep ρ (.u8 (BitVec.ofNat 8 n.toNat)) (.int .u8 n) := by
  simp only [Lit.wf, Bool.and_eq_true, decide_eq_true_eq] at h
  have h1 : (0 : Int) ≤ n := h.1
  have h2 : n < 256 := by
    have := h.2
    have e : IntKind.u8.max = 255 := by decide
    omega
  show Value.int _ _ = .int _ _
  congr 1
  simp; omega

theorem kept_of_same {W W' : World} (ho : W'.os = W.os) (hp : W'.output = W.output) (hs : ∀ b, b < W.heap.size → W'.heap[b]? = W.heap[b]?) (may : MemPlace → Prop) : W.keptBut W' may := by
  refine ⟨ho, hp, fun i hi => ?_⟩
  rw [hs i hi]
  split
  · rename_i h1 h2
    rw [h1] at h2; cases h2
    exact ⟨rfl, rfl, rfl, fun _ _ => rfl⟩
  · rename_i h1 h2
    rw [h1] at h2; cases h2
    exact .inr ⟨rfl, rfl⟩
  · rfl

section
variable {H : Type} {enc : TypeId × Value → H} {P : Program}
theorem post_flat {f : Func} {s : ChangeSpec} {apart fresh handsOn : Bool} {W W' : World} {args : Array Value} {v : Value} {ds gs : List (DataW H)}
    (hW : DataW.Whole enc P f.params.toList s.vars apart W args.toList ds gs [])
    (hres : ∀ (b : Nat) (sp : Nat → Bool) (hd : Bool), DataW.TrodAll enc P W' b sp hd f.resultTypes.toList (v.resultList f.resultTypes.size) (s.fn H (ds ++ gs)).results [])
    (hargs : ∀ sp : Nat → Bool, DataW.TrodAll enc P W' 0 sp true f.params.toList args.toList (s.fn H (ds ++ gs)).args [])
    (hvars : ∀ sp : Nat → Bool, DataW.TrodVars enc P W' sp s.vars (s.fn H (ds ++ gs)).vars [])
    (hk : W.keptBut W' (fun _ => False)) : s.post enc P f apart fresh handsOn false W args v W' :=
  ⟨ds, gs, [], [], [], [], hW, hres _ _ _, hargs _, hvars _, World.keptBut_mono (fun _ h => h.elim) hk, (fun h => nomatch h)⟩

theorem mapM_none {α β : Type} {f g : α → Option (β × List MemPlace)} : ∀ {l : List α} {r : List (β × List MemPlace)}, l.mapM f = some r → (∀ x y, x ∈ l → f x = some y → y.2 = [] ∧ g x = some y) → l.mapM g = some r ∧ r.flatMap (·.2) = []
  | [], r, h, _ => by
    simp at h; subst h; exact ⟨rfl, rfl⟩
  | a :: l, r, h, hfg => by
    rw [List.mapM_cons] at h ⊢
    simp only [bind, Option.bind_eq_some_iff, pure, Option.some.injEq] at h
    obtain ⟨y, hy, ys, hys, rfl⟩ := h
    obtain ⟨h1, h2⟩ := hfg a y (by simp) hy
    obtain ⟨h3, h4⟩ := mapM_none hys (fun x y hx => hfg x y (List.mem_cons_of_mem _ hx))
    rw [h2, h3]
    exact ⟨rfl, by rw [List.flatMap_cons, h1, h4]; rfl⟩

/-- an array of bytes by value: its bytes; it reads so anywhere -/
theorem open_u8s {t e : TypeId} {n : Nat} (ht : P.underlying t = some (.array n e)) (he : P.underlying e = some (.int .u8)) (hc : P.cellsOf e = 1) (hs : P.cellsOf t = n) {r : Reach} {b0 base : Nat} {W : World} {v : Value} {d : DataW H} {ps : List MemPlace}
    {sp : Nat → Bool} {held : Bool} (hval : Value.okWide P W r b0 t v) (hd : DataW.Trod enc P W base sp held t v d ps) :
    ∃ l : List (BitVec 8), l.length = n ∧ ps = [] ∧ (∀ ρ, Rep ρ (.u8s l) v) ∧ ∀ (W' : World) (base' : Nat) (sp' : Nat → Bool) (held' : Bool), DataW.Trod enc P W' base' sp' held' t v d [] := by
  simp only [Value.okWide, ht] at hval
  obtain ⟨xs, rfl, hn, _⟩ := hval
  obtain ⟨fuel, hf⟩ := hd
  have hcells : (Value.agg xs).cells.toList = xs.toList := by simp [Value.cells]
  rw [hcells] at hf
  obtain ⟨ys, m, rfl, hx, hl, hys, hi⟩ := DataW.trod_array ht hf
  have hcell : ∀ i, i < n → ∃ a, (xs.toList.drop (i * P.cellsOf e)).take (P.cellsOf e) = [.int .u8 a] ∧ (Lit.int .u8 a).wf = true := by
    intro i hin
    have h := hi i hin
    rw [List.getElem?_eq_getElem (by omega)] at h
    obtain ⟨a, h1, _, h2⟩ := DataW.trod_int he h
    exact ⟨a, h1, h2⟩
  have hget : ∀ i, i < n → ∃ a, xs.toList[i]? = some (.int .u8 a) ∧ (Lit.int .u8 a).wf = true := by
    intro i hin
    obtain ⟨a, h1, h2⟩ := hcell i hin
    rw [hc, Nat.mul_one] at h1
    refine ⟨a, ?_, h2⟩
    have := congrArg (·[0]?) h1
    simpa [List.getElem?_take, List.getElem?_drop] using this
  have hlen : xs.toList.length = n := by rw [hl, hs]
  have key : ∀ (cs : List Value), (∀ i, i < cs.length → ∃ a, cs[i]? = some (.int .u8 a) ∧ (Lit.int .u8 a).wf = true) → ∃ l : List (BitVec 8), l.length = cs.length ∧ ∀ ρ, All2 (RepS ρ) (l.map D.u8) cs := by
    intro cs
    induction cs with
    | nil => intro _; exact ⟨[], rfl, fun _ => trivial⟩
    | cons c cs ih =>
      intro h
      obtain ⟨a, h1, h2⟩ := h 0 (by simp)
      simp at h1; subst h1
      obtain ⟨l, h3, h4⟩ := ih (fun i hi => by simpa using h (i + 1) (by simpa using hi))
      exact ⟨BitVec.ofNat 8 a.toNat :: l, by simp [h3], fun ρ => ⟨rep_u8 (ρ := ρ) h2, h4 ρ⟩⟩
  obtain ⟨l, h1, h2⟩ := key xs.toList (by rw [hlen]; exact hget)
  have hstay : ∀ (W' : World) (base' : Nat) (sp' : Nat → Bool) (held' : Bool), DataW.trod enc P W' base' sp' held' (m + 1) t xs.toList = some (d, ps) ∧ ps = [] := by
    intro W' base' sp' held'
    unfold DataW.trod at hf ⊢
    rw [ht] at hf ⊢
    simp only [hl, if_true, Option.map_eq_some_iff] at hf ⊢
    obtain ⟨zs, hz, hzx⟩ := hf
    obtain ⟨h3, h4⟩ := mapM_none (g := fun i => DataW.trod enc P W' base' sp' held' m e ((xs.toList.drop (i * P.cellsOf e)).take (P.cellsOf e))) hz (fun i y _ hy => by
      obtain ⟨a, e1, e2, e3⟩ := DataW.trod_int he hy
      rw [e2]
      refine ⟨rfl, ?_⟩
      rw [e1]
      cases m with
      | zero => simp [DataW.trod] at hy
      | succ m => simp [DataW.trod, he, e3])
    refine ⟨⟨zs, h3, hzx⟩, ?_⟩
    have := congrArg Prod.snd hzx
    exact this.symm.trans h4
  refine ⟨l, by rw [h1, hlen], (hstay W 0 sp held).2, fun ρ => ⟨xs.toList, by simp, h2 ρ⟩, fun W' base' sp' held' => ?_⟩
  obtain ⟨h5, h6⟩ := hstay W' base' sp' held'
  refine ⟨m + 1, ?_⟩
  rw [hcells, h5, h6]
end
end Go.Proofs.YtodkhgofmgaafaaDoor.Av

namespace Go.Proofs.YtodkhgofmgaafaaDoor.Av
open Go Go.ChangeShapes Go.WideShapes
set_option linter.all false
set_option maxRecDepth 3000

/-! slices of bytes that came in, and are only read -/

section
variable {H : Type} {enc : TypeId × Value → H} {P : Program}

theorem shape_cells {w : World} {b row cells : Nat} (h : w.shape? b = some (row, cells)) : ∃ C t fr, w.heap[b]? = some (.cells C t fr) := by
  unfold World.shape? at h
  split at h
  · rename_i C t fr hC
    exact ⟨C, t, fr, hC⟩
  · cases h

/-- what a slice of bytes gives a walk: its bytes; a place from which it is read; it reads the same wherever its block is as it was -/
theorem open_slice {t e : TypeId} (ht : P.underlying t = some (.slice e)) (he : P.underlying e = some (.int .u8)) (hc : P.cellsOf e = 1) {r : Reach} {b0 : Nat} {W : World} {v : Value} {d : DataW H} {ps : List MemPlace}
    (hval : Value.okWide P W r b0 t v) (hd : DataW.Trod enc P W 0 (fun _ => true) true t v d ps) :
    (v = .slice none 0 0 ∧ ps = [] ∧ ∀ (W' : World) (sp : Nat → Bool), DataW.Trod enc P W' 0 sp true t v d []) ∨
    ∃ (l : List (BitVec 8)) (L : Loc) (cap : Nat), l.length ≤ cap ∧ cap < 9223372036854775808 ∧ SatE (fun _ => none) ⟨.row .cell, .u8s l, false⟩ L W ∧
      (∀ (ρ : Env) (i : Nat), ρ i = some L → Rep ρ (.slice i [] 0 l.length (some cap)) v) ∧
      (∀ (W' : World) (sp : Nat → Bool), (∀ b, b < W.heap.size → W'.heap[b]? = W.heap[b]?) → (∀ p ∈ ps, sp p.block = true) → DataW.Trod enc P W' 0 sp true t v d ps) ∧ ∃ es sp, d = .slice es sp ∧ es.length = l.length := by
  obtain ⟨fuel, hf⟩ := hd
  have hval' : Cell.okWide P W r b0 t v := by
    simp only [Value.okWide, ht] at hval; exact hval
  rcases open_ints ht he hc hf with ⟨hcs, hx⟩ | ⟨a, len, cap, zs, hcs, _, hl, hm, hz, hx, hcell, hwz⟩
  · left
    have hv : v = .slice none 0 0 := by
      cases v <;> simp_all [Value.cells]
      simp only [Cell.okWide, ht, Cell.ok] at hval'
    subst hv
    cases hx
    refine ⟨rfl, rfl, fun W' sp => ⟨1, ?_⟩⟩
    simp [DataW.trod, ht, Value.cells]
  right
  have hv : v = .slice (some a) len cap := by
    cases v <;> simp_all [Value.cells]
    simp only [Cell.okWide, ht, Cell.ok] at hval'
  subst hv
  cases hx
  simp only [if_true] at hz
  simp only [Cell.okWide, ht, Cell.ok] at hval'
  obtain ⟨_, _, _, hspot, row, cells, hsh, _⟩ := hval'
  obtain ⟨C, T, fr, hC⟩ := shape_cells hsh
  obtain ⟨ab, ao, spot⟩ := a
  have hspot : spot = none := hspot
  subst hspot
  have hC : W.heap[ab]? = some (.cells C T fr) := hC
  have hcell' : ∀ i, i < cap → C[ao + i]? = some (.int .u8 (zs.getD i 0)) := by
    intro i hi
    have := hcell i (by omega)
    rw [Addr.add_lit] at this
    simpa [World.cell?, hC] using this
  have hbd : 0 < cap → ao + cap ≤ C.size := by
    intro h0
    have := hcell' (cap - 1) (by omega)
    rcases Nat.lt_or_ge (ao + (cap - 1)) C.size with h | h
    · omega
    · rw [Array.getElem?_eq_none h] at this; cases this
  let l : List (BitVec 8) := (zs.take len).map fun n => BitVec.ofNat 8 n.toNat
  have hll : l.length = len := by simp [l]; omega
  let base : Nat := if cap = 0 then 0 else ao
  have hbase : base + len ≤ C.size := by
    by_cases h : cap = 0
    · simp only [base, if_pos h]; omega
    · simp only [base, if_neg h]
      have := hbd (by omega)
      omega
  have hreads : ∀ i, i < len → C[base + i]? = some (.int .u8 (zs.getD i 0)) := by
    intro i hi
    have h : ¬ cap = 0 := by omega
    simp only [base, if_neg h]
    exact hcell' i (by omega)
  refine ⟨l, ⟨ab, base, C.size, .row .cell⟩, cap, by omega, ?_, ⟨rfl, trivial, trivial, C, T, fr, C.toList.take base, (C.toList.drop base).take len, C.toList.drop (base + len), hC, list_win C.toList base len, ?_, rfl, ?_, fun h => by cases h⟩, fun ρ i hρ => ?_, fun W' sp hW hsp => ?_, _, _, rfl, by simp only [lits, List.length_map, List.length_take, hll]; omega⟩
  · unfold maxLen at hm; omega
  · rw [List.length_take, Array.length_toList]
    show min base C.size = base
    omega
  · show All2 _ (l.map D.u8) _
    have key : ∀ (n : Nat) (zs : List Int) (cs : List Value), n ≤ zs.length → (∀ z ∈ zs, (Lit.int .u8 z).wf = true) → (∀ i, i < n → cs[i]? = some (.int .u8 (zs.getD i 0))) → cs.length = n →
        All2 (RepS (fun _ => none)) (((zs.take n).map fun n => BitVec.ofNat 8 n.toNat).map D.u8) cs := by
      intro n
      induction n with
      | zero =>
        intro zs cs _ _ _ hlen
        have : cs = [] := List.eq_nil_of_length_eq_zero hlen
        subst this
        exact trivial
      | succ n ih =>
        intro zs cs hn hw hcs hlen
        match zs, cs, hn, hlen with
        | z :: zs, c :: cs, hn, hlen =>
          have h0 := hcs 0 (by omega)
          simp at h0
          subst h0
          refine ⟨rep_u8 (ρ := fun _ => none) (hw z (by simp)), ih zs cs (by simpa using hn) (fun x hx => hw x (List.mem_cons_of_mem _ hx)) (fun i hi => ?_) (by simpa using hlen)⟩
          simpa using hcs (i + 1) (by omega)
    refine key len zs _ (by omega) hwz (fun i hi => ?_) ?_
    · rw [List.getElem?_take, if_pos hi, List.getElem?_drop, Array.getElem?_toList]
      exact hreads i hi
    · rw [List.length_take, List.length_drop, Array.length_toList]; omega
  · refine ⟨_, hρ, .row .cell, .cell, ⟨ab, ao, none⟩, cap, rfl, rfl, by rw [hll], by omega, by unfold maxLen at hm; omega, fun k hk => by cases hk; rfl, fun h0 => ?_⟩
    have h : ¬ cap = 0 := by omega
    have := hbd h0
    simp only [base, if_neg h, offAt, Ty.size]
    exact ⟨by simp, by omega⟩
  · refine ⟨2, ?_⟩
    have hcells : (Value.slice (some ⟨ab, ao, none⟩) len cap).cells.toList = [.slice (some ⟨ab, ao, none⟩) len cap] := by simp [Value.cells]
    rw [hcells]
    have hab : ab < W.heap.size := by
      rcases Nat.lt_or_ge ab W.heap.size with h | h
      · exact h
      · rw [Array.getElem?_eq_none h] at hC; cases hC
    refine shut_ints' 0 ht he hc (Nat.zero_le _) hl hm ?_ (fun i hi => ?_) hwz
    · rw [hz]
      by_cases h : cap = 0
      · split <;> omega
      · have : sp ab = true := hsp (.cell ab ao) (MemPlace.mem_row.2 ⟨0, by omega, rfl⟩)
        rw [if_pos this]
    · have := hcell' i (by omega)
      simp only [World.cell?, hW ab hab, hC]
      simpa using this
end

section
variable {H : Type} {enc : TypeId × Value → H} {P : Program}

/-- an array of bytes among cells: its bytes; it reads so anywhere -/
theorem trod_u8s {t e : TypeId} {n : Nat} (ht : P.underlying t = some (.array n e)) (he : P.underlying e = some (.int .u8)) (hc : P.cellsOf e = 1) (hs : P.cellsOf t = n) {base : Nat} {W : World} {cs : List Value} {y : DataW H × List MemPlace}
    {sp : Nat → Bool} {held : Bool} {fuel : Nat} (hf : DataW.trod enc P W base sp held fuel t cs = some y) :
    y.2 = [] ∧ (∃ l : List (BitVec 8), l.length = n ∧ ∀ ρ, All2 (RepS ρ) (l.map D.u8) cs) ∧ ∀ (W' : World) (base' : Nat) (sp' : Nat → Bool) (held' : Bool), DataW.trod enc P W' base' sp' held' fuel t cs = some y := by
  obtain ⟨ys, m, rfl, hx, hl, hys, hi⟩ := DataW.trod_array ht hf
  have hget : ∀ i, i < n → ∃ a, cs[i]? = some (.int .u8 a) ∧ (Lit.int .u8 a).wf = true := by
    intro i hin
    have h := hi i hin
    rw [List.getElem?_eq_getElem (by omega)] at h
    obtain ⟨a, h1, _, h2⟩ := DataW.trod_int he h
    rw [hc, Nat.mul_one] at h1
    refine ⟨a, ?_, h2⟩
    have := congrArg (·[0]?) h1
    simpa [List.getElem?_take, List.getElem?_drop] using this
  have hlen : cs.length = n := by rw [hl, hs]
  have key : ∀ (cs : List Value), (∀ i, i < cs.length → ∃ a, cs[i]? = some (.int .u8 a) ∧ (Lit.int .u8 a).wf = true) → ∃ l : List (BitVec 8), l.length = cs.length ∧ ∀ ρ, All2 (RepS ρ) (l.map D.u8) cs := by
    intro cs
    induction cs with
    | nil => intro _; exact ⟨[], rfl, fun _ => trivial⟩
    | cons c cs ih =>
      intro h
      obtain ⟨a, h1, h2⟩ := h 0 (by simp)
      simp at h1; subst h1
      obtain ⟨l, h3, h4⟩ := ih (fun i hi => by simpa using h (i + 1) (by simpa using hi))
      exact ⟨BitVec.ofNat 8 a.toNat :: l, by simp [h3], fun ρ => ⟨rep_u8 (ρ := ρ) h2, h4 ρ⟩⟩
  obtain ⟨l, h1, h2⟩ := key cs (by rw [hlen]; exact hget)
  have hstay : ∀ (W' : World) (base' : Nat) (sp' : Nat → Bool) (held' : Bool), DataW.trod enc P W' base' sp' held' (m + 1) t cs = some y ∧ y.2 = [] := by
    intro W' base' sp' held'
    unfold DataW.trod at hf ⊢
    rw [ht] at hf ⊢
    simp only [hl, if_true, Option.map_eq_some_iff] at hf ⊢
    obtain ⟨zs, hz, hzx⟩ := hf
    obtain ⟨h3, h4⟩ := mapM_none (g := fun i => DataW.trod enc P W' base' sp' held' m e ((cs.drop (i * P.cellsOf e)).take (P.cellsOf e))) hz (fun i y _ hy => by
      obtain ⟨a, e1, e2, e3⟩ := DataW.trod_int he hy
      rw [e2]
      refine ⟨rfl, ?_⟩
      rw [e1]
      cases m with
      | zero => simp [DataW.trod] at hy
      | succ m => simp [DataW.trod, he, e3])
    refine ⟨⟨zs, h3, hzx⟩, ?_⟩
    rw [← hzx]; exact h4
  exact ⟨(hstay W 0 sp held).2, ⟨l, by rw [h1, hlen], h2⟩, fun W' base' sp' held' => (hstay W' base' sp' held').1⟩

/-- two arrays of bytes by value -/
theorem open_pair {t t' e : TypeId} {n : Nat} (ht : P.underlying t = some (.array 2 t')) (ht' : P.underlying t' = some (.array n e)) (he : P.underlying e = some (.int .u8)) (hc : P.cellsOf e = 1) (hs' : P.cellsOf t' = n) (hs : P.cellsOf t = n + n) {r : Reach} {b0 base : Nat} {W : World} {v : Value} {d : DataW H} {ps : List MemPlace}
    {sp : Nat → Bool} {held : Bool} (hval : Value.okWide P W r b0 t v) (hd : DataW.Trod enc P W base sp held t v d ps) :
    ∃ a b : List (BitVec 8), a.length = n ∧ b.length = n ∧ ps = [] ∧ (∀ ρ, Rep ρ (.node [.u8s a, .u8s b]) v) ∧ ∀ (W' : World) (base' : Nat) (sp' : Nat → Bool) (held' : Bool), DataW.Trod enc P W' base' sp' held' t v d [] := by
  simp only [Value.okWide, ht] at hval
  obtain ⟨xs, rfl, hn, _⟩ := hval
  obtain ⟨fuel, hf⟩ := hd
  have hcells : (Value.agg xs).cells.toList = xs.toList := by simp [Value.cells]
  rw [hcells] at hf
  obtain ⟨ys, m, rfl, hx, hl, hys, hi⟩ := DataW.trod_array ht hf
  obtain ⟨y0, y1, rfl⟩ : ∃ y0 y1, ys = [y0, y1] := by
    match ys, hys with
    | [y0, y1], _ => exact ⟨y0, y1, rfl⟩
  have i0 := hi 0 (by omega)
  have i1 := hi 1 (by omega)
  rw [hs'] at i0 i1
  simp only [Nat.zero_mul, List.drop_zero, Nat.one_mul] at i0 i1
  obtain ⟨p0, ⟨a, ha, hra⟩, st0⟩ := trod_u8s ht' he hc hs' (show DataW.trod enc P W base sp held m t' (xs.toList.take n) = some y0 from i0)
  obtain ⟨p1, ⟨b, hb, hrb⟩, st1⟩ := trod_u8s ht' he hc hs' (show DataW.trod enc P W base sp held m t' ((xs.toList.drop n).take n) = some y1 from i1)
  have hsz : xs.toList.length = n + n := by rw [hl, hs]
  have hsplit : xs.toList = xs.toList.take n ++ (xs.toList.drop n).take n := by
    rw [List.take_of_length_le (l := xs.toList.drop n) (by rw [List.length_drop]; omega), List.take_append_drop]
  have hstay : ∀ (W' : World) (base' : Nat) (sp' : Nat → Bool) (held' : Bool), DataW.trod enc P W' base' sp' held' (m + 1) t xs.toList = some (d, ps) ∧ ps = [] := by
    intro W' base' sp' held'
    unfold DataW.trod at hf ⊢
    rw [ht] at hf ⊢
    simp only [hl, if_true, Option.map_eq_some_iff] at hf ⊢
    obtain ⟨zs, hz, hzx⟩ := hf
    obtain ⟨h3, h4⟩ := mapM_none (g := fun i => DataW.trod enc P W' base' sp' held' m t' ((xs.toList.drop (i * P.cellsOf t')).take (P.cellsOf t'))) hz (fun i y _ hy => by
      obtain ⟨e1, _, e2⟩ := trod_u8s ht' he hc hs' hy
      exact ⟨e1, e2 W' base' sp' held'⟩)
    refine ⟨⟨zs, h3, hzx⟩, ?_⟩
    have := congrArg Prod.snd hzx
    exact this.symm.trans h4
  refine ⟨a, b, ha, hb, (hstay W 0 sp held).2, fun ρ => ⟨xs.toList, by simp, ?_⟩, fun W' base' sp' held' => ?_⟩
  · show All2 (RepS ρ) (a.map D.u8 ++ (b.map D.u8 ++ [])) _
    rw [hsplit, List.append_nil]
    exact (hra ρ).append (hrb ρ)
  · obtain ⟨h5, h6⟩ := hstay W' base' sp' held'
    refine ⟨m + 1, ?_⟩
    rw [hcells, h5, h6]

theorem rep_u64 {ρ : Env} {n : Int} (h : (Lit.int .u64 n).wf = true) : Rep ρ (.u64 (BitVec.ofNat 64 n.toNat)) (.int .u64 n) := by
  simp only [Lit.wf, Bool.and_eq_true, decide_eq_true_eq] at h
  have h1 : (0 : Int) ≤ n := h.1
  have h2 : n < 18446744073709551616 := by
    have := h.2
    have e : IntKind.u64.max = 18446744073709551615 := by decide
    omega
  show Value.int _ _ = .int _ _
  congr 1
  simp; omega

/-- the call of a law that reads a slice of bytes -/
theorem calls_bool_s {f : Nat} {args : List D} {T : Ty} {d : D} (h : AC P f args 1 [(0, some ⟨T, d, false⟩)] ⟨.bool true, [], []⟩) {W : World} {vals : List Value} {L : Loc} (hv : All2 (Rep (fun i => if i = 0 then some L else none)) args vals)
    (hs : SatE (fun _ => none) ⟨T, d, false⟩ L W) :
    Calls P f vals.toArray W fun e W' => e = .returned (.bool true) ∧ W'.os = W.os ∧ W'.output = W.output ∧ W.heap.size ≤ W'.heap.size ∧ ∀ b, b < W.heap.size → W'.heap[b]? = W.heap[b]? := by
  let ρ0 : Env := fun i => if i = 0 then some L else none
  have hle : Env.le (fun _ => none) ρ0 := fun i L h => by cases h
  have hget : ∀ i e, get [(0, some ⟨T, d, false⟩)] i = some e → i = 0 ∧ e = ⟨T, d, false⟩ := fun i e h => by
    rw [get_cons] at h
    split at h
    · rename_i e1; cases h; exact ⟨e1.symm, rfl⟩
    · cases h
  refine (h.2 ρ0 W vals hv ⟨fun g' L' h' => ?_, fun i e hi => ?_, fun i j ei ej Li Lj hi hj hne hr => ?_, fun i e L' hi hr => ?_, fun _ _ _ => rfl, Nat.le_refl _, rfl, rfl, rfl⟩ (fun i hi => ?_)).mono fun e W' ⟨v, ρ', he, _, _, hr, hI⟩ => ?_
  · have h' : (if gid g' = 0 then some L else none) = some L' := h'
    rw [if_neg (by unfold gid; omega)] at h'
    cases h'
  · obtain ⟨rfl, rfl⟩ := hget i e hi
    exact ⟨L, if_pos rfl, hs.mono hle⟩
  · obtain ⟨_, rfl⟩ := hget i ei hi
    cases hr
  · obtain ⟨_, rfl⟩ := hget i e hi
    cases hr
  · have hi : (if i = 0 then some L else none) ≠ none := hi
    split at hi
    · rename_i e1
      left; omega
    · exact absurd rfl hi
  · have hr : v = .bool true := hr
    subst hr
    refine ⟨he, hI.os, hI.out, hI.size, fun b hb => hI.ext b hb (fun ⟨i, e, L', h1, h2, _⟩ => ?_)⟩
    obtain ⟨_, rfl⟩ := hget i e h1
    cases h2
end

section
variable {H : Type} {enc : TypeId × Value → H} {P : Program}
theorem post_places {f : Func} {s : ChangeSpec} {apart fresh handsOn : Bool} {W W' : World} {args : Array Value} {v : Value} {ds gs : List (DataW H)} {before : List MemPlace}
    (hW : DataW.Whole enc P f.params.toList s.vars apart W args.toList ds gs before)
    (hres : ∀ (b : Nat) (sp : Nat → Bool) (hd : Bool), DataW.TrodAll enc P W' b sp hd f.resultTypes.toList (v.resultList f.resultTypes.size) (s.fn H (ds ++ gs)).results [])
    (hargs : ∀ sp : Nat → Bool, (∀ p ∈ before, sp p.block = true) → DataW.TrodAll enc P W' 0 sp true f.params.toList args.toList (s.fn H (ds ++ gs)).args before)
    (hvars : ∀ sp : Nat → Bool, DataW.TrodVars enc P W' sp s.vars (s.fn H (ds ++ gs)).vars [])
    (hk : W.keptBut W' (fun _ => False)) : s.post enc P f apart fresh handsOn false W args v W' :=
  ⟨ds, gs, before, [], before, [], hW, hres _ _ _, hargs _ (fun p hp => by simpa using hW.lt p hp), hvars _, World.keptBut_mono (fun _ h => h.elim) hk, (fun h => nomatch h)⟩
end
end Go.Proofs.YtodkhgofmgaafaaDoor.Av

namespace Go.Proofs.YtodkhgofmgaafaaDoor.Av
open Go Go.ChangeShapes Go.WideShapes
set_option linter.all false
set_option maxRecDepth 3000

/-! a law whose code reads some of the package's variables -/
theorem calls_bool_m {P : Program} {f : Nat} {args : List D} {m0 : Mem} (h : AC P f args 0 m0 ⟨.bool true, [], []⟩) {W : World} {vals : List Value} (hv : All2 (Rep (fun _ => none)) args vals)
    (hm : ∀ i e, get m0 i = some e → e.rw = false ∧ ∃ g, i = gid g ∧ ∃ L : Loc, (L.blk = g ∧ L.base = 0) ∧ SatE (fun _ => none) e L W) :
    Calls P f vals.toArray W fun e W' => e = .returned (.bool true) ∧ W'.os = W.os ∧ W'.output = W.output ∧ W.heap.size ≤ W'.heap.size ∧ ∀ b, b < W.heap.size → W'.heap[b]? = W.heap[b]? := by
  let ρ0 : Env := fun i => @dite _ (∃ e, get m0 i = some e) (Classical.propDecidable _) (fun hi => some (hm i hi.choose hi.choose_spec).2.choose_spec.2.choose) (fun _ => none)
  have hle : Env.le (fun _ => none) ρ0 := fun i L h => by cases h
  have hρ : ∀ i e, get m0 i = some e → ∃ g L, i = gid g ∧ ρ0 i = some L ∧ (L.blk = g ∧ L.base = 0) ∧ SatE (fun _ => none) e L W := fun i e hi => by
    have hx : ∃ e, get m0 i = some e := ⟨e, hi⟩
    have he : hx.choose = e := Option.some.inj (hx.choose_spec.symm.trans hi)
    have hs := (hm i hx.choose hx.choose_spec).2.choose_spec.2.choose_spec
    have hg := (hm i hx.choose hx.choose_spec).2.choose_spec.1
    refine ⟨_, _, hg, dif_pos hx, hs.1, ?_⟩
    have h2 := hs.2
    generalize (hm i hx.choose hx.choose_spec).2.choose_spec.2.choose = L at h2
    rw [he] at h2
    exact h2
  have hno : ∀ i L, ρ0 i = some L → ∃ e, get m0 i = some e := fun i L hi => by
    by_cases hx : ∃ e, get m0 i = some e
    · exact hx
    · have : ρ0 i = none := dif_neg hx
      rw [this] at hi; cases hi
  have hgi : ∀ {a b : Nat}, gid a = gid b → a = b := fun h => by unfold gid at h; omega
  refine (h.2 ρ0 W vals (hv.mono fun a b hab => Rep.mono hle hab)
    ⟨fun g L h' => ?_, fun i e hi => ?_, fun i j ei ej Li Lj hi hj hne hr => ?_, fun i e L' hi hr => ?_, fun _ _ _ => rfl, Nat.le_refl _, rfl, rfl, rfl⟩ (fun i hi => ?_)).mono fun e W' ⟨v, ρ', he, _, _, hr, hI⟩ => ?_
  · obtain ⟨e, he⟩ := hno _ _ h'
    obtain ⟨g', L', h1, h2, h3, _⟩ := hρ _ e he
    rw [h'] at h2; cases h2
    rw [hgi h1]; exact h3
  · obtain ⟨g', L', h1, h2, h3, h4⟩ := hρ i e hi
    exact ⟨L', h2, h4.mono hle⟩
  · rw [(hm i ei hi).1] at hr; cases hr
  · rw [(hm i e hi).1] at hr; cases hr
  · cases hL : ρ0 i with
    | none => exact absurd hL hi
    | some L =>
      obtain ⟨e, he⟩ := hno _ _ hL
      obtain ⟨g', L', h1, _⟩ := hρ _ e he
      right; rw [h1]; unfold gid; omega
  · have hr : v = .bool true := hr
    subst hr
    refine ⟨he, hI.os, hI.out, hI.size, fun b hb => hI.ext b hb (fun ⟨i, e, L', h1, h2, _⟩ => ?_)⟩
    rw [(hm i e h1).1] at h2; cases h2

/-- a variable that is an array of words, as its reading says -/
theorem sat_u32s {P : Program} {W : World} {name : String} {g t e n : Nat} (hg : P.globalNamed name = some g) (hty : (P.globals[g]?).map (·.type) = some t) (ht : P.underlying t = some (.array n e)) (he : P.underlying e = some (.int .u32))
    (hc : P.cellsOf e = 1) (hs : P.cellsOf t = n) {l : List (BitVec 32)} (hl : l.length = n) (h : Lib.VarReads P W name (.agg (l.map fun b => .lit (.int .u32 b.toNat)))) :
    SatE (fun _ => none) ⟨.arr n .cell, .u32s l, false⟩ ⟨g, 0, n, .arr n .cell⟩ W := by
  obtain ⟨g', t', cs, fuel, p, q1, q2, q3, q4⟩ := h
  obtain rfl := Option.some.inj (hg.symm.trans q1)
  obtain rfl := Option.some.inj (hty.symm.trans q2)
  have hcs : cs.toList = (l.map fun b => (b.toNat : Int)).map fun z => Value.int .u32 z := by
    have q5 : DataW.trod (fun _ => ()) P W 0 (fun _ => true) false fuel t cs.toList = some (Lib.tabData .u32 (l.map fun b => (b.toNat : Int)), p) := by
      rw [q4]; unfold Lib.tabData; rw [List.map_map]; rfl
    exact Lib.cells_of_tab ht he hc hs q5
  simp only [World.var?, hg, Option.bind_some] at q3
  split at q3 <;> try contradiction
  rename_i C T fr hC
  cases q3
  have hlen : cs.size = n := by
    have := congrArg List.length hcs
    simpa [hl] using this
  refine ⟨rfl, trivial, hl, cs, T, fr, [], cs.toList, [], hC, by simp, rfl, hlen, ?_, fun h => by cases h⟩
  rw [hcs, List.map_map]
  show All2 _ (l.map D.u32) _
  have : ∀ l : List (BitVec 32), All2 (RepS (fun _ => none)) (l.map D.u32) (l.map ((fun z => Value.int .u32 z) ∘ fun b => (b.toNat : Int))) := by
    intro l
    induction l with
    | nil => trivial
    | cons a r ih => exact ⟨rfl, ih⟩
  exact this l

section
variable {H : Type} {enc : TypeId × Value → H} {P : Program}
/-- three arrays of bytes -/
theorem open_triple {t t' e : TypeId} {n : Nat} (ht : P.underlying t = some (.array 3 t')) (ht' : P.underlying t' = some (.array n e)) (he : P.underlying e = some (.int .u8)) (hc : P.cellsOf e = 1) (hs' : P.cellsOf t' = n) (hs : P.cellsOf t = n + n + n) {r : Reach} {b0 base : Nat} {W : World} {v : Value} {d : DataW H} {ps : List MemPlace}
    {sp : Nat → Bool} {held : Bool} (hval : Value.okWide P W r b0 t v) (hd : DataW.Trod enc P W base sp held t v d ps) :
    ∃ a b c : List (BitVec 8), a.length = n ∧ b.length = n ∧ c.length = n ∧ ps = [] ∧ (∀ ρ, Rep ρ (.node [.u8s a, .u8s b, .u8s c]) v) ∧ ∀ (W' : World) (base' : Nat) (sp' : Nat → Bool) (held' : Bool), DataW.Trod enc P W' base' sp' held' t v d [] := by
  simp only [Value.okWide, ht] at hval
  obtain ⟨xs, rfl, hn, _⟩ := hval
  obtain ⟨fuel, hf⟩ := hd
  have hcells : (Value.agg xs).cells.toList = xs.toList := by simp [Value.cells]
  rw [hcells] at hf
  obtain ⟨ys, m, rfl, hx, hl, hys, hi⟩ := DataW.trod_array ht hf
  obtain ⟨y0, y1, y2, rfl⟩ : ∃ y0 y1 y2, ys = [y0, y1, y2] := by
    match ys, hys with
    | [y0, y1, y2], _ => exact ⟨y0, y1, y2, rfl⟩
  have i0 := hi 0 (by omega)
  have i1 := hi 1 (by omega)
  have i2 := hi 2 (by omega)
  rw [hs'] at i0 i1 i2
  simp only [Nat.zero_mul, List.drop_zero, Nat.one_mul] at i0 i1 i2
  obtain ⟨p0, ⟨a, ha, hra⟩, st0⟩ := trod_u8s ht' he hc hs' (show DataW.trod enc P W base sp held m t' (xs.toList.take n) = some y0 from i0)
  obtain ⟨p1, ⟨b, hb, hrb⟩, st1⟩ := trod_u8s ht' he hc hs' (show DataW.trod enc P W base sp held m t' ((xs.toList.drop n).take n) = some y1 from i1)
  obtain ⟨p2, ⟨c, hcl, hrc⟩, st2⟩ := trod_u8s ht' he hc hs' (show DataW.trod enc P W base sp held m t' ((xs.toList.drop (2 * n)).take n) = some y2 from i2)
  have hsz : xs.toList.length = n + n + n := by rw [hl, hs]
  have hsplit : xs.toList = xs.toList.take n ++ ((xs.toList.drop n).take n ++ (xs.toList.drop (2 * n)).take n) := by
    rw [List.take_of_length_le (l := xs.toList.drop (2 * n)) (by rw [List.length_drop]; omega), show 2 * n = n + n by omega, ← List.drop_drop, List.take_append_drop, List.take_append_drop]
  have hstay : ∀ (W' : World) (base' : Nat) (sp' : Nat → Bool) (held' : Bool), DataW.trod enc P W' base' sp' held' (m + 1) t xs.toList = some (d, ps) ∧ ps = [] := by
    intro W' base' sp' held'
    unfold DataW.trod at hf ⊢
    rw [ht] at hf ⊢
    simp only [hl, if_true, Option.map_eq_some_iff] at hf ⊢
    obtain ⟨zs, hz, hzx⟩ := hf
    obtain ⟨h3, h4⟩ := mapM_none (g := fun i => DataW.trod enc P W' base' sp' held' m t' ((xs.toList.drop (i * P.cellsOf t')).take (P.cellsOf t'))) hz (fun i y _ hy => by
      obtain ⟨e1, _, e2⟩ := trod_u8s ht' he hc hs' hy
      exact ⟨e1, e2 W' base' sp' held'⟩)
    refine ⟨⟨zs, h3, hzx⟩, ?_⟩
    have := congrArg Prod.snd hzx
    exact this.symm.trans h4
  refine ⟨a, b, c, ha, hb, hcl, (hstay W 0 sp held).2, fun ρ => ⟨xs.toList, by simp, ?_⟩, fun W' base' sp' held' => ?_⟩
  · show All2 (RepS ρ) (a.map D.u8 ++ (b.map D.u8 ++ (c.map D.u8 ++ []))) _
    rw [hsplit, List.append_nil]
    exact (hra ρ).append ((hrb ρ).append (hrc ρ))
  · obtain ⟨h5, h6⟩ := hstay W' base' sp' held'
    refine ⟨m + 1, ?_⟩
    rw [hcells, h5, h6]
end
end Go.Proofs.YtodkhgofmgaafaaDoor.Av

namespace Go.Proofs.YtodkhgofmgaafaaDoor.Av
open Go Go.ChangeShapes Go.WideShapes
set_option linter.all false
set_option maxRecDepth 3000

/-! plain data of any shape: its values, told by its type alone -/
def canEs (F : TypeId → D → Prop) : List TypeId → List D → Prop
  | [], [] => True
  | t :: ts, d :: ds => F t d ∧ canEs F ts ds
  | _, _ => False

def oddB (P : Program) (e : TypeId) : Nat := match P.underlying e with
  | some (.int .u8) => 1
  | some (.int .u32) => 2
  | some (.int .u64) => 2
  | _ => 0
theorem oddB_one {P : Program} {e : TypeId} (h : oddB P e = 1) : P.underlying e = some (.int .u8) := by
  unfold oddB at h
  split at h
  · assumption
  all_goals omega
def canE (P : Program) : Nat → TypeId → D → Prop
  | 0, _, _ => False
  | n + 1, t, x => match P.underlying t with
    | some .bool => ∃ b, x = .bool b
    | some (.int .u8) => ∃ b, x = .u8 b
    | some (.int .u16) => ∃ b, x = .u16 b
    | some (.int .u32) => ∃ b, x = .u32 b
    | some (.int .u64) => ∃ b, x = .u64 b
    | some (.int .i64) => ∃ b : Int, x = .i64 b ∧ -9223372036854775808 ≤ b ∧ b < 9223372036854775808
    | some (.array c e) => match oddB P e with
      | 1 => ∃ l, x = .u8s l ∧ l.length = c
      | _ => ∃ l, x = .node l ∧ l.length = c ∧ AllD (canE P n e) l
    | some (.struct fs) => ∃ l, x = .node l ∧ canEs (canE P n) (fs.toList.map (·.type)) l
    | _ => False

theorem rep_u16 {ρ : Env} {n : Int} (h : (Lit.int .u16 n).wf = true) : Rep ρ (.u16 (BitVec.ofNat 16 n.toNat)) (.int .u16 n) := by
  simp only [Lit.wf, Bool.and_eq_true, decide_eq_true_eq] at h
  have h1 : (0 : Int) ≤ n := h.1
  have h2 : n < 65536 := by
    have := h.2
    have e : IntKind.u16.max = 65535 := by decide
    omega
  show Value.int _ _ = .int _ _
  congr 1
  simp; omega
theorem rep_u32 {ρ : Env} {n : Int} (h : (Lit.int .u32 n).wf = true) : Rep ρ (.u32 (BitVec.ofNat 32 n.toNat)) (.int .u32 n) := by
  simp only [Lit.wf, Bool.and_eq_true, decide_eq_true_eq] at h
  have h1 : (0 : Int) ≤ n := h.1
  have h2 : n < 4294967296 := by
    have := h.2
    have e : IntKind.u32.max = 4294967295 := by decide
    omega
  show Value.int _ _ = .int _ _
  congr 1
  simp; omega
theorem rep_i64 {n : Int} (h : (Lit.int .i64 n).wf = true) : -9223372036854775808 ≤ n ∧ n < 9223372036854775808 := by
  simp only [Lit.wf, Bool.and_eq_true, decide_eq_true_eq] at h
  have h1 : IntKind.i64.min ≤ n := h.1
  have e1 : IntKind.i64.min = -9223372036854775808 := by decide
  have e : IntKind.i64.max = 9223372036854775807 := by decide
  have h2 : n ≤ IntKind.i64.max := h.2
  omega

/-- fields one behind the other, from o on -/
def inRow (P : Program) : List Field → Nat → Nat → Bool
  | [], o, e => o == e
  | f :: fs, o, e => f.offset == o && inRow P fs (o + P.cellsOf f.type) e

def flatT (P : Program) : Nat → TypeId → Bool
  | 0, _ => false
  | n + 1, t => match P.underlying t with
    | some .bool => true
    | some (.int .u8) => true
    | some (.int .u16) => true
    | some (.int .u32) => true
    | some (.int .u64) => true
    | some (.int .i64) => true
    | some (.array c e) => match oddB P e with
      | 0 => P.cellsOf t == c * P.cellsOf e && flatT P n e
      | 1 => P.cellsOf e == 1 && P.cellsOf t == c
      | _ => false
    | some (.struct fs) => inRow P fs.toList 0 (P.cellsOf t) && fs.toList.all (fun f => flatT P n f.type)
    | _ => false

section
variable {H : Type} {enc : TypeId × Value → H} {P : Program}

theorem mapM_rows {α : Type} (F : TypeId → D → Prop) (g g' : α → Option (DataW H × List MemPlace)) (ty : α → TypeId) (chunk : α → List Value) : ∀ (l : List α) (r : List (DataW H × List MemPlace)), l.mapM g = some r →
    (∀ a ∈ l, ∀ y, g a = some y → y.2 = [] ∧ g' a = some y ∧ ∃ d, F (ty a) d ∧ ∀ ρ, All2 (RepS ρ) d.flat (chunk a)) →
    l.mapM g' = some r ∧ r.flatMap (·.2) = [] ∧ ∃ ds : List D, ds.length = l.length ∧ canEs F (l.map ty) ds ∧ ∀ ρ, All2 (RepS ρ) (D.flats ds) (l.flatMap chunk)
  | [], r, h, _ => by
    simp at h; subst h
    exact ⟨rfl, rfl, [], rfl, trivial, fun _ => trivial⟩
  | a :: l, r, h, hg => by
    rw [List.mapM_cons] at h ⊢
    simp only [bind, Option.bind_eq_some_iff, pure, Option.some.injEq] at h
    obtain ⟨y, hy, ys, hys, rfl⟩ := h
    obtain ⟨h1, h2, d, h3, h4⟩ := hg a (by simp) y hy
    obtain ⟨k1, k2, ds, k3, k4, k5⟩ := mapM_rows F g g' ty chunk l ys hys (fun b hb => hg b (by simp [hb]))
    rw [h2, k1]
    refine ⟨rfl, by rw [List.flatMap_cons, h1, k2]; rfl, d :: ds, by simp [k3], ⟨h3, k4⟩, fun ρ => ?_⟩
    rw [List.flatMap_cons]
    exact (h4 ρ).append (k5 ρ)

theorem inRow_cells (cs : List Value) : ∀ (fs : List Field) (o e : Nat), inRow P fs o e = true → e = cs.length → fs.flatMap (fun f => (cs.drop f.offset).take (P.cellsOf f.type)) = cs.drop o
  | [], o, e, h, he => by
    simp only [inRow, beq_iff_eq] at h
    rw [h, he, List.drop_length]; rfl
  | f :: fs, o, e, h, he => by
    simp only [inRow, Bool.and_eq_true, beq_iff_eq] at h
    rw [List.flatMap_cons, inRow_cells cs fs _ e h.2 he, h.1, ← List.drop_drop, List.take_append_drop]

theorem canEs_rep (F : TypeId → D → Prop) (e : TypeId) : ∀ (n : Nat) (ds : List D), canEs F (List.replicate n e) ds → ds.length = n ∧ AllD (F e) ds
  | 0, [], _ => ⟨rfl, trivial⟩
  | n + 1, d :: ds, h => by
    obtain ⟨h1, h2⟩ := canEs_rep F e n ds h.2
    exact ⟨by simp [h1], h.1, h2⟩
  | 0, _ :: _, h => h.elim
  | n + 1, [], h => h.elim

theorem range_chunks {α : Type} (c : Nat) : ∀ (n : Nat) (cs : List α), cs.length = n * c → (List.range n).flatMap (fun i => (cs.drop (i * c)).take c) = cs
  | 0, cs, h => by
    have : cs = [] := List.length_eq_zero_iff.1 (by omega)
    rw [this]; rfl
  | n + 1, cs, h => by
    rw [List.range_succ_eq_map, List.flatMap_cons, List.flatMap_map]
    have e := range_chunks c n (cs.drop c) (by rw [List.length_drop, h, Nat.add_mul]; omega)
    have : (fun i => ((cs.drop c).drop (i * c)).take c) = (fun i => (cs.drop ((i + 1) * c)).take c) := by
      funext i
      rw [List.drop_drop]
      congr 2
      rw [Nat.add_mul]; omega
    rw [this] at e
    rw [Nat.zero_mul, List.drop_zero, e, List.take_append_drop]

theorem trod_flat : ∀ (n : Nat) {t : TypeId} (_ : flatT P n t = true) {W : World} {base fuel : Nat} {sp : Nat → Bool} {held : Bool} {cs : List Value} {y : DataW H × List MemPlace}, DataW.trod enc P W base sp held fuel t cs = some y →
    y.2 = [] ∧ (∃ d, canE P n t d ∧ ∀ ρ, All2 (RepS ρ) d.flat cs) ∧ ∀ (W' : World) (base' : Nat) (sp' : Nat → Bool) (held' : Bool), DataW.trod enc P W' base' sp' held' fuel t cs = some y := by
  intro n
  induction n with
  | zero => intro t h; cases h
  | succ n ih =>
    intro t h W base fuel sp held cs y hd
    cases hu : P.underlying t with
    | none => simp [flatT, hu] at h
    | some T =>
      have int : ∀ {k : IntKind} (_ : T = .int k) (_ : ∀ z, (Lit.int k z).wf = true → ∃ d, canE P (n + 1) t d ∧ ∀ ρ, All2 (RepS ρ) d.flat [.int k z]),
          y.2 = [] ∧ (∃ d, canE P (n + 1) t d ∧ ∀ ρ, All2 (RepS ρ) d.flat cs) ∧ ∀ (W' : World) (base' : Nat) (sp' : Nat → Bool) (held' : Bool), DataW.trod enc P W' base' sp' held' fuel t cs = some y := by
        intro k hT h1
        subst hT
        obtain ⟨a, rfl, rfl, e3⟩ := DataW.trod_int hu hd
        refine ⟨rfl, h1 a e3, fun W' base' sp' held' => ?_⟩
        cases fuel with
        | zero => simp [DataW.trod] at hd
        | succ m => simp [DataW.trod, hu, e3]
      cases T with
      | bool =>
        obtain ⟨b, rfl, rfl⟩ := DataW.trod_bool hu hd
        refine ⟨rfl, ⟨.bool b, by simp only [canE, hu]; exact ⟨b, rfl⟩, fun ρ => ⟨rfl, trivial⟩⟩, fun W' base' sp' held' => ?_⟩
        cases fuel with
        | zero => simp [DataW.trod] at hd
        | succ m => simp [DataW.trod, hu]
      | int k =>
        cases k with
        | u8 => exact int rfl fun z hz => ⟨.u8 (BitVec.ofNat 8 z.toNat), by simp only [canE, hu]; exact ⟨_, rfl⟩, fun ρ => ⟨rep_u8 (ρ := ρ) hz, trivial⟩⟩
        | u16 => exact int rfl fun z hz => ⟨.u16 (BitVec.ofNat 16 z.toNat), by simp only [canE, hu]; exact ⟨_, rfl⟩, fun ρ => ⟨rep_u16 (ρ := ρ) hz, trivial⟩⟩
        | u32 => exact int rfl fun z hz => ⟨.u32 (BitVec.ofNat 32 z.toNat), by simp only [canE, hu]; exact ⟨_, rfl⟩, fun ρ => ⟨rep_u32 (ρ := ρ) hz, trivial⟩⟩
        | u64 => exact int rfl fun z hz => ⟨.u64 (BitVec.ofNat 64 z.toNat), by simp only [canE, hu]; exact ⟨_, rfl⟩, fun ρ => ⟨rep_u64 (ρ := ρ) hz, trivial⟩⟩
        | i64 => exact int rfl fun z hz => ⟨.i64 z, by simp only [canE, hu]; exact ⟨_, rfl, (rep_i64 hz).1, (rep_i64 hz).2⟩, fun ρ => ⟨(show Value.int .i64 z = .int .i64 z ∧ _ from ⟨rfl, rep_i64 hz⟩), trivial⟩⟩
        | _ => simp [flatT, hu] at h
      | array c e =>
        by_cases he : oddB P e = 1
        · simp only [flatT, hu, he, Bool.and_eq_true, beq_iff_eq] at h
          obtain ⟨h1, ⟨l, h2, h3⟩, h4⟩ := trod_u8s hu (oddB_one he) h.1 h.2 hd
          exact ⟨h1, ⟨.u8s l, by simp only [canE, hu, he]; exact ⟨l, rfl, h2⟩, h3⟩, h4⟩
        · have he0 : oddB P e = 0 := by
            simp only [flatT, hu] at h
            split at h
            · assumption
            · contradiction
            · cases h
          simp only [flatT, hu, he0, Bool.and_eq_true, beq_iff_eq] at h
          cases fuel with
          | zero => simp [DataW.trod] at hd
          | succ m =>
            have hd0 := hd
            unfold DataW.trod at hd
            rw [hu] at hd
            simp only at hd
            split at hd
            rotate_left
            · cases hd
            rename_i hlen
            rw [Option.map_eq_some_iff] at hd
            obtain ⟨xs, hx, rfl⟩ := hd
            have hs : cs.length = c * P.cellsOf e := by rw [hlen, h.1]
            obtain ⟨_, k2, ds, k3, k4, k5⟩ := mapM_rows (canE P n) _ (fun i => DataW.trod enc P W base sp held m e ((cs.drop (i * P.cellsOf e)).take (P.cellsOf e))) (fun _ => e) (fun i => (cs.drop (i * P.cellsOf e)).take (P.cellsOf e)) _ _ hx (fun i _ z hz => by
              obtain ⟨h1, h2, h3⟩ := ih h.2 hz
              exact ⟨h1, hz, h2⟩)
            rw [List.map_const', List.length_range] at k4
            obtain ⟨k6, k7⟩ := canEs_rep (canE P n) e c ds k4
            refine ⟨k2, ⟨.node ds, ?_, fun ρ => ?_⟩, fun W' base' sp' held' => ?_⟩
            · simp only [canE, hu, he0]
              exact ⟨ds, rfl, k6, k7⟩
            · have := k5 ρ
              rw [range_chunks _ _ cs hs] at this
              exact this
            · obtain ⟨j1, _⟩ := mapM_rows (canE P n) _ (fun i => DataW.trod enc P W' base' sp' held' m e ((cs.drop (i * P.cellsOf e)).take (P.cellsOf e))) (fun _ => e) (fun i => (cs.drop (i * P.cellsOf e)).take (P.cellsOf e)) _ _ hx (fun i _ z hz => by
                obtain ⟨h1, h2, h3⟩ := ih h.2 hz
                exact ⟨h1, h3 W' base' sp' held', h2⟩)
              unfold DataW.trod
              rw [hu]
              simp only
              rw [if_pos hlen, j1]
              rfl
      | struct fs =>
        simp only [flatT, hu, Bool.and_eq_true, List.all_eq_true] at h
        cases fuel with
        | zero => simp [DataW.trod] at hd
        | succ m =>
          have hd0 := hd
          unfold DataW.trod at hd
          rw [hu] at hd
          simp only at hd
          split at hd
          rotate_left
          · cases hd
          rename_i hlen
          rw [Option.map_eq_some_iff] at hd
          obtain ⟨xs, hx, rfl⟩ := hd
          obtain ⟨_, k2, ds, k3, k4, k5⟩ := mapM_rows (canE P n) _ (fun f => DataW.trod enc P W base sp held m f.type ((cs.drop f.offset).take (P.cellsOf f.type))) (fun f => f.type) (fun f => (cs.drop f.offset).take (P.cellsOf f.type)) _ _ hx (fun f hf z hz => by
            obtain ⟨h1, h2, h3⟩ := ih (h.2 f hf) hz
            exact ⟨h1, hz, h2⟩)
          refine ⟨k2, ⟨.node ds, ?_, fun ρ => ?_⟩, fun W' base' sp' held' => ?_⟩
          · unfold canE
            rw [hu]
            exact ⟨ds, rfl, k4⟩
          · have := k5 ρ
            rw [inRow_cells cs fs.toList 0 _ h.1 hlen.symm] at this
            exact this
          · obtain ⟨j1, _⟩ := mapM_rows (canE P n) _ (fun f => DataW.trod enc P W' base' sp' held' m f.type ((cs.drop f.offset).take (P.cellsOf f.type))) (fun f => f.type) (fun f => (cs.drop f.offset).take (P.cellsOf f.type)) _ _ hx (fun f hf z hz => by
              obtain ⟨h1, h2, h3⟩ := ih (h.2 f hf) hz
              exact ⟨h1, h3 W' base' sp' held', h2⟩)
            unfold DataW.trod
            rw [hu]
            simp only
            rw [if_pos hlen, j1]
            rfl
      | _ => simp [flatT, hu] at h

/-- plain data by value: what it holds; it reads so anywhere -/
theorem open_flat (n : Nat) {t : TypeId} (ht : flatT P n t = true) {r : Reach} {b0 base : Nat} {W : World} {v : Value} {d : DataW H} {ps : List MemPlace} {sp : Nat → Bool} {held : Bool} (hval : Value.okWide P W r b0 t v)
    (hagg : (match P.underlying t with | some (.array _ _) => true | some (.struct _) => true | _ => false) = true) (hd : DataW.Trod enc P W base sp held t v d ps) :
    ∃ x, canE P n t x ∧ ps = [] ∧ (∀ ρ, All2 (RepS ρ) x.flat v.cells.toList ∧ ∃ xs, v = .agg xs) ∧ ∀ (W' : World) (base' : Nat) (sp' : Nat → Bool) (held' : Bool), DataW.Trod enc P W' base' sp' held' t v d [] := by
  obtain ⟨fuel, hf⟩ := hd
  obtain ⟨h1, ⟨x, h2, h3⟩, h4⟩ := trod_flat n ht hf
  have hps : ps = [] := h1
  subst hps
  have : ∃ xs, v = .agg xs := by
    cases hu : P.underlying t with
    | none => simp [hu] at hagg
    | some T =>
      cases T <;> simp [hu] at hagg
      all_goals
        simp only [Value.okWide, hu] at hval
        obtain ⟨xs, rfl, _⟩ := hval
        exact ⟨xs, rfl⟩
  exact ⟨x, h2, rfl, fun ρ => ⟨h3 ρ, this⟩, fun W' base' sp' held' => ⟨fuel, h4 W' base' sp' held'⟩⟩
end
end Go.Proofs.YtodkhgofmgaafaaDoor.Av

namespace Go.Proofs.YtodkhgofmgaafaaDoor.Av
open Go Go.ChangeShapes Go.WideShapes
set_option linter.all false
set_option maxRecDepth 3000

/-! a law that reads a row of bytes, and some of the package's variables -/
theorem calls_bool_sm {P : Program} {f : Nat} {args : List D} {m0 : Mem} (h : AC P f args 1 m0 ⟨.bool true, [], []⟩) {W : World} {vals : List Value} {L0 : Loc} (hv : All2 (Rep (fun i => if i = 0 then some L0 else none)) args vals)
    (hm : ∀ i e, get m0 i = some e → e.rw = false ∧ ((i = 0 ∧ SatE (fun _ => none) e L0 W) ∨ ∃ g, i = gid g ∧ ∃ L : Loc, (L.blk = g ∧ L.base = 0) ∧ SatE (fun _ => none) e L W)) :
    Calls P f vals.toArray W fun e W' => e = .returned (.bool true) ∧ W'.os = W.os ∧ W'.output = W.output ∧ W.heap.size ≤ W'.heap.size ∧ ∀ b, b < W.heap.size → W'.heap[b]? = W.heap[b]? := by
  have hgi : ∀ {a b : Nat}, gid a = gid b → a = b := fun h => by unfold gid at h; omega
  have hg0 : ∀ g, gid g ≠ 0 := fun g => by unfold gid; omega
  have hm2 : ∀ i e, get m0 i = some e → i ≠ 0 → ∃ g, i = gid g ∧ ∃ L : Loc, (L.blk = g ∧ L.base = 0) ∧ SatE (fun _ => none) e L W := fun i e hi h0 => by
    rcases (hm i e hi).2 with ⟨h1, _⟩ | h1
    · exact absurd h1 h0
    · exact h1
  let ρ0 : Env := fun i => if h0 : i = 0 then some L0 else @dite _ (∃ e, get m0 i = some e) (Classical.propDecidable _) (fun hi => some (hm2 i hi.choose hi.choose_spec h0).choose_spec.2.choose) (fun _ => none)
  have hle : Env.le (fun _ => none) ρ0 := fun i L h => by cases h
  have hle0 : Env.le (fun i => if i = 0 then some L0 else none) ρ0 := fun i L h => by
    have h : (if i = 0 then some L0 else none) = some L := h
    split at h
    · rename_i h0
      show dite _ _ _ = _
      rw [dif_pos h0]; exact h
    · cases h
  have h00 : ρ0 0 = some L0 := dif_pos rfl
  have hρ : ∀ i e, get m0 i = some e → i ≠ 0 → ∃ g L, i = gid g ∧ ρ0 i = some L ∧ (L.blk = g ∧ L.base = 0) ∧ SatE (fun _ => none) e L W := fun i e hi h0 => by
    have hx : ∃ e, get m0 i = some e := ⟨e, hi⟩
    have he : hx.choose = e := Option.some.inj (hx.choose_spec.symm.trans hi)
    have hs := (hm2 i hx.choose hx.choose_spec h0).choose_spec.2.choose_spec
    have hg := (hm2 i hx.choose hx.choose_spec h0).choose_spec.1
    refine ⟨_, _, hg, (dif_neg h0).trans (dif_pos hx), hs.1, ?_⟩
    have h2 := hs.2
    generalize (hm2 i hx.choose hx.choose_spec h0).choose_spec.2.choose = L at h2
    rw [he] at h2
    exact h2
  have hno : ∀ i L, ρ0 i = some L → i ≠ 0 → ∃ e, get m0 i = some e := fun i L hi h0 => by
    by_cases hx : ∃ e, get m0 i = some e
    · exact hx
    · have : ρ0 i = none := (dif_neg h0).trans (dif_neg hx)
      rw [this] at hi; cases hi
  have hsat : ∀ i e, get m0 i = some e → ∃ L, ρ0 i = some L ∧ SatE ρ0 e L W := fun i e hi => by
    by_cases h0 : i = 0
    · subst h0
      rcases (hm 0 e hi).2 with ⟨_, h1⟩ | ⟨g, h1, _⟩
      · exact ⟨L0, h00, h1.mono hle⟩
      · exact absurd h1.symm (hg0 g)
    · obtain ⟨g', L', h1, h2, h3, h4⟩ := hρ i e hi h0
      exact ⟨L', h2, h4.mono hle⟩
  refine (h.2 ρ0 W vals (hv.mono fun a b hab => Rep.mono hle0 hab)
    ⟨fun g L h' => ?_, hsat, fun i j ei ej Li Lj hi hj hne hr => ?_, fun i e L' hi hr => ?_, fun _ _ _ => rfl, Nat.le_refl _, rfl, rfl, rfl⟩ (fun i hi => ?_)).mono fun e W' ⟨v, ρ', he, _, _, hr, hI⟩ => ?_
  · obtain ⟨e, he⟩ := hno _ _ h' (hg0 g)
    obtain ⟨g', L', h1, h2, h3, _⟩ := hρ _ e he (hg0 g)
    rw [h'] at h2; cases h2
    rw [hgi h1]; exact h3
  · rw [(hm i ei hi).1] at hr; cases hr
  · rw [(hm i e hi).1] at hr; cases hr
  · by_cases h0 : i = 0
    · left; omega
    · cases hL : ρ0 i with
      | none => exact absurd hL hi
      | some L =>
        obtain ⟨e, he⟩ := hno _ _ hL h0
        obtain ⟨g', L', h1, _⟩ := hρ _ e he h0
        right; rw [h1]; unfold gid; omega
  · have hr : v = .bool true := hr
    subst hr
    refine ⟨he, hI.os, hI.out, hI.size, fun b hb => hI.ext b hb (fun ⟨i, e, L', h1, h2, _⟩ => ?_)⟩
    rw [(hm i e h1).1] at h2; cases h2

/-- no bytes at all lie anywhere -/
theorem sat_none {e : Ent} {L : Loc} {W : World} (h : SatE (fun _ => none) e L W) : SatE (fun _ => none) ⟨.row .cell, .u8s [], false⟩ ⟨L.blk, 0, L.n, .row .cell⟩ W := by
  obtain ⟨q1, q2, q3, C, t, fr, pre, front, tail, q4, q5, q6, q7, q8, q9⟩ := h
  exact ⟨rfl, trivial, trivial, C, t, fr, [], [], C.toList, q4, by simp, rfl, q7, trivial, fun h => by cases h⟩
end Go.Proofs.YtodkhgofmgaafaaDoor.Av

namespace Go.Proofs.YtodkhgofmgaafaaDoor.Av
open Go Go.ChangeShapes Go.WideShapes
set_option linter.all false
set_option maxRecDepth 3000

/-! a law that reads some rows of bytes, and some of the package's variables -/
theorem calls_bool_n {P : Program} {f : Nat} {args : List D} {m0 : Mem} {np : Nat} (hnp : np ≤ 1000) (h : AC P f args np m0 ⟨.bool true, [], []⟩) {W : World} {vals : List Value} {loc : Nat → Loc} (hv : All2 (Rep (fun i => if i < np then some (loc i) else none)) args vals)
    (hm : ∀ i e, get m0 i = some e → e.rw = false ∧ ((i < np ∧ SatE (fun _ => none) e (loc i) W) ∨ ∃ g, i = gid g ∧ ∃ L : Loc, (L.blk = g ∧ L.base = 0) ∧ SatE (fun _ => none) e L W)) :
    Calls P f vals.toArray W fun e W' => e = .returned (.bool true) ∧ W'.os = W.os ∧ W'.output = W.output ∧ W.heap.size ≤ W'.heap.size ∧ ∀ b, b < W.heap.size → W'.heap[b]? = W.heap[b]? := by
  have hgi : ∀ {a b : Nat}, gid a = gid b → a = b := fun h => by unfold gid at h; omega
  have hg0 : ∀ g, ¬ gid g < np := fun g => by unfold gid; omega
  have hm2 : ∀ i e, get m0 i = some e → ¬ i < np → ∃ g, i = gid g ∧ ∃ L : Loc, (L.blk = g ∧ L.base = 0) ∧ SatE (fun _ => none) e L W := fun i e hi h0 => by
    rcases (hm i e hi).2 with ⟨h1, _⟩ | h1
    · exact absurd h1 h0
    · exact h1
  let ρ0 : Env := fun i => if h0 : i < np then some (loc i) else @dite _ (∃ e, get m0 i = some e) (Classical.propDecidable _) (fun hi => some (hm2 i hi.choose hi.choose_spec h0).choose_spec.2.choose) (fun _ => none)
  have hle : Env.le (fun _ => none) ρ0 := fun i L h => by cases h
  have hle0 : Env.le (fun i => if i < np then some (loc i) else none) ρ0 := fun i L h => by
    have h : (if i < np then some (loc i) else none) = some L := h
    split at h
    · rename_i h0
      show dite _ _ _ = _
      rw [dif_pos h0]; exact h
    · cases h
  have h00 : ∀ i, i < np → ρ0 i = some (loc i) := fun i h => dif_pos h
  have hρ : ∀ i e, get m0 i = some e → ¬ i < np → ∃ g L, i = gid g ∧ ρ0 i = some L ∧ (L.blk = g ∧ L.base = 0) ∧ SatE (fun _ => none) e L W := fun i e hi h0 => by
    have hx : ∃ e, get m0 i = some e := ⟨e, hi⟩
    have he : hx.choose = e := Option.some.inj (hx.choose_spec.symm.trans hi)
    have hs := (hm2 i hx.choose hx.choose_spec h0).choose_spec.2.choose_spec
    have hg := (hm2 i hx.choose hx.choose_spec h0).choose_spec.1
    refine ⟨_, _, hg, (dif_neg h0).trans (dif_pos hx), hs.1, ?_⟩
    have h2 := hs.2
    generalize (hm2 i hx.choose hx.choose_spec h0).choose_spec.2.choose = L at h2
    rw [he] at h2
    exact h2
  have hno : ∀ i L, ρ0 i = some L → ¬ i < np → ∃ e, get m0 i = some e := fun i L hi h0 => by
    by_cases hx : ∃ e, get m0 i = some e
    · exact hx
    · have : ρ0 i = none := (dif_neg h0).trans (dif_neg hx)
      rw [this] at hi; cases hi
  have hsat : ∀ i e, get m0 i = some e → ∃ L, ρ0 i = some L ∧ SatE ρ0 e L W := fun i e hi => by
    by_cases h0 : i < np
    · rcases (hm i e hi).2 with ⟨_, h1⟩ | ⟨g, h1, _⟩
      · exact ⟨loc i, h00 i h0, h1.mono hle⟩
      · exact absurd (h1 ▸ h0) (hg0 g)
    · obtain ⟨g', L', h1, h2, h3, h4⟩ := hρ i e hi h0
      exact ⟨L', h2, h4.mono hle⟩
  refine (h.2 ρ0 W vals (hv.mono fun a b hab => Rep.mono hle0 hab)
    ⟨fun g L h' => ?_, hsat, fun i j ei ej Li Lj hi hj hne hr => ?_, fun i e L' hi hr => ?_, fun _ _ _ => rfl, Nat.le_refl _, rfl, rfl, rfl⟩ (fun i hi => ?_)).mono fun e W' ⟨v, ρ', he, _, _, hr, hI⟩ => ?_
  · obtain ⟨e, he⟩ := hno _ _ h' (hg0 g)
    obtain ⟨g', L', h1, h2, h3, _⟩ := hρ _ e he (hg0 g)
    rw [h'] at h2; cases h2
    rw [hgi h1]; exact h3
  · rw [(hm i ei hi).1] at hr; cases hr
  · rw [(hm i e hi).1] at hr; cases hr
  · by_cases h0 : i < np
    · exact .inl h0
    · cases hL : ρ0 i with
      | none => exact absurd hL hi
      | some L =>
        obtain ⟨e, he⟩ := hno _ _ hL h0
        obtain ⟨g', L', h1, _⟩ := hρ _ e he h0
        right; rw [h1]; unfold gid; omega
  · have hr : v = .bool true := hr
    subst hr
    refine ⟨he, hI.os, hI.out, hI.size, fun b hb => hI.ext b hb (fun ⟨i, e, L', h1, h2, _⟩ => ?_)⟩
    rw [(hm i e h1).1] at h2; cases h2


section
variable {H : Type} {enc : TypeId × Value → H} {P : Program}
/-- a slice of bytes, nil or not: its bytes, and where they lie -/
theorem open_slD {t e : TypeId} (ht : P.underlying t = some (.slice e)) (he : P.underlying e = some (.int .u8)) (hc : P.cellsOf e = 1) {r : Reach} {b0 : Nat} {W : World} {v : Value} {d : DataW H} {ps : List MemPlace} {L9 : Loc}
    (h9 : SatE (fun _ => none) ⟨.row .cell, .u8s [], false⟩ L9 W) (hval : Value.okWide P W r b0 t v) (hd : DataW.Trod enc P W 0 (fun _ => true) true t v d ps) :
    ∃ (l : List (BitVec 8)) (L : Loc) (x : Option Nat), (x = none → l.length = 0) ∧ SatE (fun _ => none) ⟨.row .cell, .u8s l, false⟩ L W ∧ (∀ (ρ : Env) (i : Nat), ρ i = some L → Rep ρ (slD i l.length x) v) ∧
      (∀ (W' : World) (sp : Nat → Bool), (∀ b, b < W.heap.size → W'.heap[b]? = W.heap[b]?) → (∀ p ∈ ps, sp p.block = true) → DataW.Trod enc P W' 0 sp true t v d ps) := by
  rcases open_slice ht he hc hval hd with ⟨rfl, rfl, hst⟩ | ⟨l, L, cap, hcap, hcap2, hsat, hrep, hst, es, sp0, hd2, hes⟩
  · exact ⟨[], L9, none, fun _ => rfl, h9, fun ρ i _ => rfl, fun W' sp _ _ => hst W' sp⟩
  · exact ⟨l, L, some cap, fun h => (nomatch h), hsat, hrep, hst⟩
/-- .. and how many it may be -/
theorem open_slD2 {t e : TypeId} (ht : P.underlying t = some (.slice e)) (he : P.underlying e = some (.int .u8)) (hc : P.cellsOf e = 1) {r : Reach} {b0 : Nat} {W : World} {v : Value} {d : DataW H} {ps : List MemPlace} {L9 : Loc}
    (h9 : SatE (fun _ => none) ⟨.row .cell, .u8s [], false⟩ L9 W) (hval : Value.okWide P W r b0 t v) (hd : DataW.Trod enc P W 0 (fun _ => true) true t v d ps) :
    ∃ (l : List (BitVec 8)) (L : Loc) (x : Option Nat), (x = none → l.length = 0) ∧ SatE (fun _ => none) ⟨.row .cell, .u8s l, false⟩ L W ∧ (∀ (ρ : Env) (i : Nat), ρ i = some L → Rep ρ (slD i l.length x) v) ∧
      (∀ (W' : World) (sp : Nat → Bool), (∀ b, b < W.heap.size → W'.heap[b]? = W.heap[b]?) → (∀ p ∈ ps, sp p.block = true) → DataW.Trod enc P W' 0 sp true t v d ps) ∧ (l.length = 0 ∨ ∃ es sp, d = .slice es sp ∧ es.length = l.length) := by
  rcases open_slice ht he hc hval hd with ⟨rfl, rfl, hst⟩ | ⟨l, L, cap, hcap, hcap2, hsat, hrep, hst, hes⟩
  · exact ⟨[], L9, none, fun _ => rfl, h9, fun ρ i _ => rfl, fun W' sp _ _ => hst W' sp, .inl rfl⟩
  · exact ⟨l, L, some cap, fun h => (nomatch h), hsat, hrep, hst, .inr hes⟩
end
end Go.Proofs.YtodkhgofmgaafaaDoor.Av
