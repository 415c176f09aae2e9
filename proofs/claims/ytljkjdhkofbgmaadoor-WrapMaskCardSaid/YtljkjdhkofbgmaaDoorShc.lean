import Derived.Test.YtljkjdhkofbgmaaDoorShb
namespace Go.Proofs.YtljkjdhkofbgmaaDoor.Av
open Go
set_option linter.all false
set_option maxRecDepth 3000

/-- the state behind some blocks -/
def shaI (s : List (BitVec 32)) (c : List (BitVec 8)) : Nat → List (BitVec 32)
  | 0 => s
  | j + 1 => sbF (shaI s c j) c (64 * j)
theorem shaI_length (s : List (BitVec 32)) (c : List (BitVec 8)) : ∀ j, (shaI s c j).length = s.length
  | 0 => rfl
  | j + 1 => by rw [shaI, sbF_length, shaI_length s c j]

def H0 : List (BitVec 32) := [0x6a09e667, 0xbb67ae85, 0x3c6ef372, 0xa54ff53a, 0x510e527f, 0x9b05688c, 0x1f83d9ab, 0x5be0cd19]
theorem first_sha_ac : AC Tryd.prog 74 [] 0 [] ⟨.u32s H0, [], []⟩ := by
  refine acA tab mix Tryd.func74 {} ?_
  repeat first | refine EffG.mk (obA ?_) | refine obA ?_ | refine chkA ?_
  refine retA []
theorem shanew_ac : AC Tryd.prog 65 [] 0 [] ⟨.ptr 0 [], [], [(tH, .node [.u32s H0, .nilslice, .i64 0])]⟩ := by
  refine acA tab mix Tryd.func65 {} ?_
  repeat first | refine EffG.mk (obA ?_) | refine obA ?_ | refine chkA ?_
  refine callA first_sha_ac [] ?_
  have h : H0.length = 8 := rfl
  generalize H0 = s at h ⊢
  repeat first | refine EffG.mk (obA ?_) | refine obA ?_ | refine chkA ?_
  refine retA [0]

theorem write_nil_ac (s : List (BitVec 32)) (n : Int) (bs : List (BitVec 8)) (o k : Nat) (cap : Option Nat) (hs : s.length = 8) (hn : 0 ≤ n ∧ n < 4611686018427387904) (h : o + k ≤ bs.length) (h0 : 0 < k) (hk : k ≤ 70368744177664) :
    AC Tryd.prog 66 [.ptr 0 [], .slice 1 [] o k cap] 2 [(0, some ⟨tH, .node [.u32s s, .nilslice, .i64 n], true⟩), (1, some ⟨.row .cell, .u8s bs, false⟩), gR]
      ⟨.i64 0, [(0, some (.node [.u32s (shaI s ((bs.drop o).take k) (k / 64)), .slice 2 [] (64 * (k / 64)) (k - 64 * (k / 64)) none, .i64 (n + k)]))], [(.row .cell, .u8s ((bs.drop o).take k))]⟩ := by
  have hl : ((bs.drop o).take k).length = k := by rw [List.length_take, List.length_drop]; omega
  refine acA tab mix Tryd.func66 {} ?_
  repeat first | refine EffG.mk (obA ?_) | refine obA ?_ | refine chkA ?_ | refine brY ?_ | refine brN ?_
  refine callA (concat_nil_ac bs o k cap h h0 hk) [2, 1] ?_
  generalize (bs.drop o).take k = c at hl ⊢
  repeat first | refine EffG.mk (obA ?_) | refine obA ?_ | refine chkA ?_
  refine loopG Nat (fun j => [(0, .ptr 0 []), (1, .slice 2 [] (64 * j) (k - 64 * j) none)]) (fun j => [(0, some ⟨tH, .node [.u32s (shaI s c j), .nilslice, .i64 (n + k)], true⟩), (1, some ⟨.row .cell, .u8s bs, false⟩), (2, some ⟨.row .cell, .u8s c, true⟩), gR]) 3
    (fun j => j ≤ k / 64) (fun j => k / 64 - j) 0 [0, 1, 3] (Nat.zero_le _) viewA ?_
  intro j hj
  have hsl := shaI_length s c j
  rw [hs] at hsl
  repeat first | refine EffG.mk (obA ?_) | refine obA ?_ | refine chkA ?_
  refine Br.split (fun h => ?_) (fun h => ?_)
  · have hj : 64 * j + 64 ≤ k := by have := of_decide_eq_true h; omega
    have e : shaI s c (j + 1) = sbF (shaI s c j) c (64 * j) := rfl
    have ha := (add_acs (shaI s c j) c (64 * j) hsl (by omega) (by omega) (n + k) 0 0 none).2.1
    generalize shaI s c j = x at hsl e ha ⊢
    repeat first | refine EffG.mk (obA ?_) | refine obA ?_ | refine chkA ?_
    refine callA ha [0, 2] ?_
    repeat first | refine EffG.mk (obA ?_) | refine obA ?_ | refine chkA ?_
    refine nextA (j + 1) [0, 1, 2] (viewA (h2 := ?_) (h3 := ?_))
    · rw [show 64 * (j + 1) = 64 * j + 64 by omega, show k - (64 * j + 64) = k - 64 * j - 64 by omega]
      exact ⟨rfl, rfl, trivial⟩
    · rw [e]
      exact ⟨⟨_, rfl, rfl, rfl, id⟩, ⟨_, rfl, rfl, rfl, id⟩, ⟨_, rfl, rfl, rfl, id⟩, ⟨_, rfl, rfl, rfl, id⟩, trivial⟩
  · obtain rfl : j = k / 64 := by have := of_decide_eq_false h; omega
    repeat first | refine EffG.mk (obA ?_) | refine obA ?_ | refine chkA ?_
    refine retA [0, 1, 2]

theorem write_ac (s : List (BitVec 32)) (n : Int) (ss bs : List (BitVec 8)) (r a o k : Nat) (rc cap : Option Nat) (hs : s.length = 8) (hn : 0 ≤ n ∧ n < 4611686018427387904) (ha : r + a ≤ ss.length) (h : o + k ≤ bs.length) (h0 : 0 < k) (hk : a + k ≤ 70368744177664) :
    AC Tryd.prog 66 [.ptr 0 [], .slice 1 [] o k cap] 3 [(0, some ⟨tH, .node [.u32s s, .slice 2 [] r a rc, .i64 n], true⟩), (1, some ⟨.row .cell, .u8s bs, false⟩), (2, some ⟨.row .cell, .u8s ss, true⟩), gR]
      ⟨.i64 0, [(0, some (.node [.u32s (shaI s ((ss.drop r).take a ++ (bs.drop o).take k) ((a + k) / 64)), .slice 3 [] (64 * ((a + k) / 64)) (a + k - 64 * ((a + k) / 64)) none, .i64 (n + k)]))],
        [(.row .cell, .u8s ((ss.drop r).take a ++ (bs.drop o).take k))]⟩ := by
  have hl : ((ss.drop r).take a ++ (bs.drop o).take k).length = a + k := by rw [List.length_append, List.length_take, List.length_drop, List.length_take, List.length_drop]; omega
  refine acA tab mix Tryd.func66 {} ?_
  repeat first | refine EffG.mk (obA ?_) | refine obA ?_ | refine chkA ?_ | refine brY ?_ | refine brN ?_
  refine callA (concat_ac ss bs r a o k rc cap ha h h0 hk) [3, 1, 2] ?_
  generalize (ss.drop r).take a ++ (bs.drop o).take k = c at hl ⊢
  repeat first | refine EffG.mk (obA ?_) | refine obA ?_ | refine chkA ?_
  refine loopG Nat (fun j => [(0, .ptr 0 []), (1, .slice 3 [] (64 * j) (a + k - 64 * j) none)]) (fun j => [(0, some ⟨tH, .node [.u32s (shaI s c j), .slice 2 [] r a rc, .i64 (n + k)], true⟩), (1, some ⟨.row .cell, .u8s bs, false⟩),
    (2, some ⟨.row .cell, .u8s ss, true⟩), (3, some ⟨.row .cell, .u8s c, true⟩), gR]) 4
    (fun j => j ≤ (a + k) / 64) (fun j => (a + k) / 64 - j) 0 [0, 1, 2, 4] (Nat.zero_le _) viewA ?_
  intro j hj
  have hsl := shaI_length s c j
  rw [hs] at hsl
  repeat first | refine EffG.mk (obA ?_) | refine obA ?_ | refine chkA ?_
  refine Br.split (fun h => ?_) (fun h => ?_)
  · have hj : 64 * j + 64 ≤ a + k := by have := of_decide_eq_true h; omega
    have e : shaI s c (j + 1) = sbF (shaI s c j) c (64 * j) := rfl
    have ha := (add_acs (shaI s c j) c (64 * j) hsl (by omega) (by omega) (n + k) r a rc).2.2
    generalize shaI s c j = x at hsl e ha ⊢
    repeat first | refine EffG.mk (obA ?_) | refine obA ?_ | refine chkA ?_
    refine callA ha [0, 3, 2] ?_
    repeat first | refine EffG.mk (obA ?_) | refine obA ?_ | refine chkA ?_
    refine nextA (j + 1) [0, 1, 2, 3] (viewA (h2 := ?_) (h3 := ?_))
    · rw [show 64 * (j + 1) = 64 * j + 64 by omega, show a + k - (64 * j + 64) = a + k - 64 * j - 64 by omega]
      exact ⟨rfl, rfl, trivial⟩
    · rw [e]
      exact ⟨⟨_, rfl, rfl, rfl, id⟩, ⟨_, rfl, rfl, rfl, id⟩, ⟨_, rfl, rfl, rfl, id⟩, ⟨_, rfl, rfl, rfl, id⟩, ⟨_, rfl, rfl, rfl, id⟩, trivial⟩
  · obtain rfl : j = (a + k) / 64 := by have := of_decide_eq_false h; omega
    repeat first | refine EffG.mk (obA ?_) | refine obA ?_ | refine chkA ?_
    refine retA [0, 1, 2, 3]

/-! the sum -/
def outI (s : List (BitVec 32)) : Nat → List (BitVec 8)
  | 0 => List.replicate 32 0
  | i + 1 => (outI s i).take (4 * i) ++ nbF ((s.getD i 0).setWidth 64) 4 ++ (outI s i).drop (4 * i + 4)
theorem outI_length (s : List (BitVec 32)) : ∀ i, i ≤ 8 → (outI s i).length = 32
  | 0, _ => rfl
  | i + 1, h => by rw [outI, List.length_append, List.length_append, List.length_take, List.length_drop, outI_length s i (by omega), nbF_length]; omega
/-- how many noughts -/
def zN (a : Nat) : Nat := (119 - a % 64) % 64
def padI (c : List (BitVec 8)) (j : Nat) : List (BitVec 8) := c ++ 128 :: List.replicate j 0
def padF (c : List (BitVec 8)) (n : Int) : List (BitVec 8) := padI c (zN c.length) ++ nbF (BitVec.ofInt 64 n * 8) 8
theorem zN_mod (a : Nat) : (a + 1 + zN a) % 64 = 56 := by unfold zN; omega
theorem padI_length (c : List (BitVec 8)) (j : Nat) : (padI c j).length = c.length + 1 + j := by
  simp only [padI, List.length_append, List.length_cons, List.length_replicate]; omega
theorem padI_succ (c : List (BitVec 8)) (j : Nat) : padI c (j + 1) = padI c j ++ [0] := by
  simp only [padI, List.replicate_succ', List.cons_append, List.append_assoc]
theorem padF_length (c : List (BitVec 8)) (n : Int) : (padF c n).length = c.length + 9 + zN c.length := by
  rw [padF, List.length_append, padI_length, nbF_length]; omega
def sumF (s : List (BitVec 32)) (c : List (BitVec 8)) (n : Int) : List (BitVec 8) := outI (shaI s (padF c n) ((padF c n).length / 64)) 8
theorem sumF_length (s : List (BitVec 32)) (c : List (BitVec 8)) (n : Int) : (sumF s c n).length = 32 := outI_length _ 8 (Nat.le_refl _)

theorem sum_ac (s : List (BitVec 32)) (n : Int) (ss : List (BitVec 8)) (r a : Nat) (rc : Option Nat) (hs : s.length = 8) (hn : 0 ≤ n ∧ n < 4611686018427387904) (ha : r + a ≤ ss.length) (hk : a ≤ 35184372088832) :
    AC Tryd.prog 67 [.ptr 0 []] 2 [(0, some ⟨tH, .node [.u32s s, .slice 1 [] r a rc, .i64 n], true⟩), (1, some ⟨.row .cell, .u8s ss, true⟩), gR] ⟨.u8s (sumF s ((ss.drop r).take a) n), [], []⟩ := by
  have hl : ((ss.drop r).take a).length = a := by rw [List.length_take, List.length_drop]; omega
  have hS : sumF s ((ss.drop r).take a) n = outI (shaI s (padF ((ss.drop r).take a) n) ((padF ((ss.drop r).take a) n).length / 64)) 8 := rfl
  have hP : padF ((ss.drop r).take a) n = padI ((ss.drop r).take a) (zN a) ++ nbF (BitVec.ofInt 64 n * 8) 8 := by rw [padF, hl]
  have hPl := padF_length ((ss.drop r).take a) n
  rw [hl] at hPl
  have hz := zN_mod a
  have hz2 : zN a < 64 := Nat.mod_lt _ (by decide)
  refine acA tab mix Tryd.func67 {} ?_
  repeat first | refine EffG.mk (obA ?_) | refine obA ?_ | refine chkA ?_ | refine brY ?_ | refine brN ?_
  refine callA (clone_ac ss r a rc ha (by omega)) [1] ?_
  generalize (ss.drop r).take a = c at *
  have ht : List.take a c = c := List.take_of_length_le (by omega)
  repeat first | refine EffG.mk (obA ?_) | refine obA ?_ | refine chkA ?_
  refine ⟨0, ?_⟩
  repeat first | refine EffG.mk (obA ?_) | refine obA ?_ | refine chkA ?_
  refine loopG Nat (fun j => [(0, .ptr 0 []), (2, .ptr 2 []), (3, .ptr 3 []), (4, .slice 4 [] 0 (a + 1 + j) none)]) (fun j => [(0, some ⟨tH, .node [.u32s s, .slice 1 [] r a rc, .i64 n], true⟩), (1, some ⟨.row .cell, .u8s ss, true⟩),
    (2, some ⟨.arr 32 .cell, .u8s (List.replicate 32 0), true⟩), (3, some ⟨.arr 32 .cell, .u8s (List.replicate 32 0), true⟩), (4, some ⟨.row .cell, .u8s (padI c j), true⟩), gR]) 5
    (fun j => j ≤ zN a) (fun j => zN a - j) 0 [0, 1, 2, 3, 6] (Nat.zero_le _) (viewA (h3 := ?_)) ?_
  · exact ⟨⟨_, rfl, rfl, rfl, id⟩, ⟨_, rfl, rfl, rfl, id⟩, ⟨_, rfl, rfl, rfl, id⟩, ⟨_, rfl, rfl, rfl, id⟩, ⟨_, rfl, rfl, congrArg (fun x => D.u8s (x ++ [128])) ht, id⟩, ⟨_, rfl, rfl, rfl, id⟩, trivial⟩
  intro j hj
  have hpl := padI_length c j
  rw [hl] at hpl
  have q : Int.tmod ((a + 1 + j : Nat) : Int) 64 = (((a + 1 + j) % 64 : Nat) : Int) := (Int.ofNat_tmod (a + 1 + j) 64).symm
  repeat first | rw [q] | refine EffG.mk (obA ?_) | refine obA ?_ | refine chkA ?_
  refine Br.split (fun h => ?_) (fun h => ?_)
  · have hj : j < zN a := by
      have h1 : ¬ (((a + 1 + j) % 64 : Nat) : Int) = 56 := by simpa only [Bool.not_eq_true', decide_eq_false_iff_not] using h
      rcases Nat.lt_or_ge j (zN a) with h | h
      · exact h
      · exfalso; obtain rfl : j = zN a := by omega
        omega
    have e := padI_succ c j
    generalize padI c j = x at hpl e ⊢
    repeat first | refine EffG.mk (obA ?_) | refine obA ?_ | refine chkA ?_
    refine ⟨0, ?_⟩
    repeat first | refine EffG.mk (obA ?_) | refine obA ?_ | refine chkA ?_
    refine nextA (j + 1) [0, 1, 2, 3, 6] (viewA (h3 := ?_))
    rw [e]
    exact ⟨⟨_, rfl, rfl, rfl, id⟩, ⟨_, rfl, rfl, rfl, id⟩, ⟨_, rfl, rfl, rfl, id⟩, ⟨_, rfl, rfl, rfl, id⟩, ⟨_, rfl, rfl, congrArg (fun x => D.u8s (x ++ [0])) (show List.take (a + 1 + j) x = x from List.take_of_length_le (by omega)), id⟩, ⟨_, rfl, rfl, rfl, id⟩, trivial⟩
  · obtain rfl : j = zN a := by
      have h1 : (((a + 1 + j) % 64 : Nat) : Int) = 56 := by simpa only [Bool.not_eq_false', decide_eq_true_eq] using h
      unfold zN at hj hz ⊢; omega
    repeat first | refine EffG.mk (obA ?_) | refine obA ?_ | refine chkA ?_
    refine callA (put64_ac (BitVec.ofInt 64 n * 8)) [] ?_
    have hpp := nbF_length (BitVec.ofInt 64 n * 8) 8
    repeat first | refine EffG.mk (obA ?_) | refine obA ?_ | refine chkA ?_
    refine ⟨0, ?_⟩
    repeat first | refine EffG.mk (obA ?_) | refine obA ?_ | refine chkA ?_
    have hC : List.take (a + 1 + zN a) (padI c (zN a)) ++ List.take 8 (nbF (BitVec.ofInt 64 n * 8) 8) = padF c n := by rw [hP, List.take_of_length_le (by omega), List.take_of_length_le (by omega)]
    have hz3 : (a + 1 + zN a + 8) % 64 = 0 := by omega
    generalize padF c n = P at hC hPl hS
    rw [show a + 9 + zN a = a + 1 + zN a + 8 by omega] at hPl
    refine loopG Nat (fun j => [(2, .ptr 2 []), (3, .ptr 3 []), (4, .slice 4 [] (64 * j) (a + 1 + zN a + 8 - 64 * j) none), (5, .ptr 5 [])]) (fun j => [(0, some ⟨tH, .node [.u32s s, .slice 1 [] r a rc, .i64 n], true⟩), (1, some ⟨.row .cell, .u8s ss, true⟩),
      (2, some ⟨.arr 32 .cell, .u8s (List.replicate 32 0), true⟩), (3, some ⟨.arr 32 .cell, .u8s (List.replicate 32 0), true⟩), (4, some ⟨.row .cell, .u8s P, true⟩), (5, some ⟨t8, .u32s (shaI s P j), true⟩), gR]) 6
      (fun j => j ≤ P.length / 64) (fun j => P.length / 64 - j) 0 [0, 1, 2, 3, 6, 7] (Nat.zero_le _) (viewA (h3 := ?_)) ?_
    · exact ⟨⟨_, rfl, rfl, rfl, id⟩, ⟨_, rfl, rfl, rfl, id⟩, ⟨_, rfl, rfl, rfl, id⟩, ⟨_, rfl, rfl, rfl, id⟩, ⟨_, rfl, rfl, congrArg D.u8s hC, id⟩, ⟨_, rfl, rfl, rfl, id⟩, ⟨_, rfl, rfl, rfl, id⟩, trivial⟩
    have hL : a + 1 + zN a + 8 < 70368744177664 := by omega
    generalize a + 1 + zN a + 8 = L at hPl hz3 hL ⊢
    intro j hj
    have hsl := shaI_length s P j
    rw [hs] at hsl
    repeat first | refine EffG.mk (obA ?_) | refine obA ?_ | refine chkA ?_
    refine Br.split (fun h => ?_) (fun h => ?_)
    · have hj : 64 * j + 64 ≤ L := by have := of_decide_eq_true h; omega
      have e : shaI s P (j + 1) = sbF (shaI s P j) P (64 * j) := rfl
      have ha := (add_acs (shaI s P j) P (64 * j) hsl (by omega) (by omega) 0 0 0 none).1
      generalize shaI s P j = x at hsl e ha ⊢
      repeat first | refine EffG.mk (obA ?_) | refine obA ?_ | refine chkA ?_
      refine callA ha [5, 4] ?_
      repeat first | refine EffG.mk (obA ?_) | refine obA ?_ | refine chkA ?_
      refine nextA (j + 1) [0, 1, 2, 3, 4, 5] (viewA (h2 := ?_) (h3 := ?_))
      · rw [show 64 * (j + 1) = 64 * j + 64 by omega, show L - (64 * j + 64) = L - 64 * j - 64 by omega]
        exact ⟨rfl, rfl, rfl, rfl, trivial⟩
      · rw [e]
        exact ⟨⟨_, rfl, rfl, rfl, id⟩, ⟨_, rfl, rfl, rfl, id⟩, ⟨_, rfl, rfl, rfl, id⟩, ⟨_, rfl, rfl, rfl, id⟩, ⟨_, rfl, rfl, rfl, id⟩, ⟨_, rfl, rfl, rfl, id⟩, ⟨_, rfl, rfl, rfl, id⟩, trivial⟩
    · obtain rfl : j = P.length / 64 := by have := of_decide_eq_false h; omega
      generalize shaI s P (P.length / 64) = x at hsl hS ⊢
      repeat first | refine EffG.mk (obA ?_) | refine obA ?_ | refine chkA ?_
      refine loopG Nat (fun i => [(2, .ptr 2 []), (3, .ptr 3 []), (46, .u32s x), (47, .i64 i)]) (fun i => [(0, some ⟨tH, .node [.u32s s, .slice 1 [] r a rc, .i64 n], true⟩), (1, some ⟨.row .cell, .u8s ss, true⟩),
        (2, some ⟨.arr 32 .cell, .u8s (List.replicate 32 0), true⟩), (3, some ⟨.arr 32 .cell, .u8s (outI x i), true⟩), gR]) 4 (fun i => i ≤ 8) (fun i => 8 - i) 0 [0, 1, 2, 3] (Nat.zero_le _) viewA ?_
      intro i hi
      have hol := outI_length x i hi
      repeat first | refine EffG.mk (obA ?_) | refine obA ?_ | refine chkA ?_
      refine Br.split (fun h => ?_) (fun h => ?_)
      · have hi : i < 8 := by have := of_decide_eq_true h; omega
        have e : outI x (i + 1) = (outI x i).take (4 * i) ++ nbF ((x.getD i 0).setWidth 64) 4 ++ (outI x i).drop (4 * i + 4) := rfl
        have hpp := nbF_length ((x.getD i 0).setWidth 64) 4
        repeat first | refine EffG.mk (obA ?_) | refine obA ?_ | refine chkA ?_
        refine callA (put32_ac (x.getD i 0)) [] ?_
        have q1 : Nat.min 4 ((Option.getD none ((32 : Nat) : Int)).toNat - ((some (4 * (i : Int))).getD 0).toNat) = 4 := by rw [natMin]; simp only [Option.getD]; omega
        have q2 : ((some (4 * (i : Int))).getD 0).toNat = 4 * i := by simp only [Option.getD]; omega
        generalize nbF ((x.getD i 0).setWidth 64) 4 = y at e hpp ⊢
        generalize outI x i = z at e hol ⊢
        repeat first | rw [q1, q2] | refine EffG.mk (obA ?_) | refine obA ?_ | refine chkA ?_
        refine nextA (i + 1) [0, 1, 2, 3] (viewA (h3 := ?_))
        rw [e]
        exact ⟨⟨_, rfl, rfl, rfl, id⟩, ⟨_, rfl, rfl, rfl, id⟩, ⟨_, rfl, rfl, rfl, id⟩, ⟨_, rfl, rfl, congrArg (fun l => D.u8s (z.take (4 * i) ++ l ++ z.drop (4 * i + 4))) (show List.take 4 y = y from List.take_of_length_le (by omega)), id⟩, ⟨_, rfl, rfl, rfl, id⟩, trivial⟩
      · obtain rfl : i = 8 := by have := of_decide_eq_false h; omega
        repeat first | refine EffG.mk (obA ?_) | refine obA ?_ | refine chkA ?_
        refine retA [0, 1] (h1 := congrArg D.u8s hS.symm)
end Go.Proofs.YtljkjdhkofbgmaaDoor.Av
