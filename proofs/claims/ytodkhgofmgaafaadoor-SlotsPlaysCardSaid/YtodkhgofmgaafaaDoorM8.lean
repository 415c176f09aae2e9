import Derived.Test.YtodkhgofmgaafaaDoorM7
import Derived.Test.YtodkhgofmgaafaaDoorM3
import Derived.ProofKit
import Derived.OpenShut
import Derived.Lib.LaidU8
import Derived.Lay
import Derived.MakeChecks
import Derived.ChangeSlices
import Derived.ChangeSame
import Derived.Test.YtodkhgofmgaafaaDoorM4
import Derived.ChangeStays
namespace Go.Proofs.YtodkhgofmgaafaaDoor.Av
open Go
set_option linter.all false
set_option maxRecDepth 3000

/-! acts -/
structure ActS where
  kd : BitVec 8
  ks : List (BitVec 8)
  fs : List (BitVec 8)
  x : Option Nat
  x2 : Option Nat
  salt : List (BitVec 8)
  n : Int
structure ActS.ok (a : ActS) : Prop where
  x : a.x = none → a.ks.length = 0
  x2 : a.x2 = none → a.fs.length = 0
  salt : a.salt.length = 16
def a0 : ActS := ⟨0, [], [], none, none, List.replicate 16 0, 0⟩
abbrev actAt (b c : Nat) (a : ActS) : D := .node [.u8 a.kd, slD b a.ks.length a.x, slD c a.fs.length a.x2, .u8s a.salt, .i64 a.n]
def actsD : Nat → List ActS → List D
  | _, [] => []
  | n, a :: r => actAt n (n + 1) a :: actsD (n + 2) r
theorem actsD_length : ∀ (A : List ActS) (n : Nat), (actsD n A).length = A.length
  | [], _ => rfl
  | a :: r, n => by rw [actsD, List.length_cons, List.length_cons, actsD_length r]
theorem nthD_acts : ∀ (A : List ActS) (n i : Nat), i < A.length → nthD (actsD n A) i = actAt (n + 2 * i) (n + 2 * i + 1) (A.getD i a0)
  | [], _, _, h => absurd h (Nat.not_lt_zero _)
  | a :: r, n, 0, _ => rfl
  | a :: r, n, i + 1, h => by
    have := nthD_acts r (n + 2) i (by simpa using h)
    rw [show n + 2 + 2 * i = n + 2 * (i + 1) by omega] at this
    exact this
theorem ren_actsD (s : Nat → Nat) (m : Nat) (hs : ∀ i, i < m → s i = i) : ∀ (A : List ActS) (n : Nat), n + 2 * A.length ≤ m → D.rens s (actsD n A) = actsD n A
  | [], _, _ => rfl
  | a :: r, n, h => by
    have h : n + 2 * (r.length + 1) ≤ m := h
    show (actAt n (n + 1) a).ren s :: D.rens s (actsD (n + 2) r) = actAt n (n + 1) a :: actsD (n + 2) r
    rw [ren_actsD s m hs r (n + 2) (by omega)]
    congr 1
    show D.node [_, (slD n _ _).ren s, (slD (n + 1) _ _).ren s, _, _] = _
    rw [ren_slD, ren_slD, hs n (by omega), hs (n + 1) (by omega)]
    rfl
theorem acts_ty {A : List ActS} (h : ∀ a ∈ A, a.ok) : ∀ n, AllD (hasTy tAct) (actsD n A) := by
  induction A with
  | nil => intro n; trivial
  | cons a r ih => exact fun n => ⟨⟨rfl, cell_slD _ _ _, cell_slD _ _ _, (h a (by simp)).salt, rfl, trivial⟩, ih (fun b hb => h b (by simp [hb])) (n + 2)⟩
theorem acts_at {A : List ActS} (h : ∀ a ∈ A, a.ok) {i : Nat} (hi : i < A.length) : (A.getD i a0).ok := h _ (getD_mem hi)
theorem fix25 : ∀ i, i < 25 → sig 28 0 0 [0, 1, 2, 3, 4, 5, 6, 7, 8, 9, 10, 11, 12, 13, 14, 15, 16, 17, 18, 19, 20, 21, 22, 23, 24, 25, 26, 27] i = i := by decide
theorem fix25r : ∀ i, i < 25 → sig 25 0 0 [0, 1, 2, 3, 4, 5, 6, 7, 8, 9, 10, 11, 12, 13, 14, 15, 16, 17, 18, 19, 20, 21, 22, 23, 24] i = i := by decide
abbrev plMem (A : List ActS) : Mem := (0, some ⟨.row tAct, .node (actsD 1 A), false⟩) :: (1, some ⟨.row .cell, .u8s (A.getD 0 a0).ks, false⟩) :: (2, some ⟨.row .cell, .u8s (A.getD 0 a0).fs, false⟩) :: (3, some ⟨.row .cell, .u8s (A.getD 1 a0).ks, false⟩) :: (4, some ⟨.row .cell, .u8s (A.getD 1 a0).fs, false⟩) :: (5, some ⟨.row .cell, .u8s (A.getD 2 a0).ks, false⟩) :: (6, some ⟨.row .cell, .u8s (A.getD 2 a0).fs, false⟩) :: (7, some ⟨.row .cell, .u8s (A.getD 3 a0).ks, false⟩) :: (8, some ⟨.row .cell, .u8s (A.getD 3 a0).fs, false⟩) :: (9, some ⟨.row .cell, .u8s (A.getD 4 a0).ks, false⟩) :: (10, some ⟨.row .cell, .u8s (A.getD 4 a0).fs, false⟩) :: (11, some ⟨.row .cell, .u8s (A.getD 5 a0).ks, false⟩) :: (12, some ⟨.row .cell, .u8s (A.getD 5 a0).fs, false⟩) :: (13, some ⟨.row .cell, .u8s (A.getD 6 a0).ks, false⟩) :: (14, some ⟨.row .cell, .u8s (A.getD 6 a0).fs, false⟩) :: (15, some ⟨.row .cell, .u8s (A.getD 7 a0).ks, false⟩) :: (16, some ⟨.row .cell, .u8s (A.getD 7 a0).fs, false⟩) :: (17, some ⟨.row .cell, .u8s (A.getD 8 a0).ks, false⟩) :: (18, some ⟨.row .cell, .u8s (A.getD 8 a0).fs, false⟩) :: (19, some ⟨.row .cell, .u8s (A.getD 9 a0).ks, false⟩) :: (20, some ⟨.row .cell, .u8s (A.getD 9 a0).fs, false⟩) :: (21, some ⟨.row .cell, .u8s (A.getD 10 a0).ks, false⟩) :: (22, some ⟨.row .cell, .u8s (A.getD 10 a0).fs, false⟩) :: (23, some ⟨.row .cell, .u8s (A.getD 11 a0).ks, false⟩) :: (24, some ⟨.row .cell, .u8s (A.getD 11 a0).fs, false⟩) :: gRBK

theorem plays_long_ac (k : Nat) (cap : Nat) (master : List (BitVec 8)) (hm : master.length = 32) (hk : 12 < k) :
    AC Tryd.prog 4 [.slice 0 [] 0 k (some cap), .u8s master] 1 [gR] ⟨.bool true, [], []⟩ := by
  have haw := slawake_ac
  refine acA tab mix Tryd.func4 {} ?_
  repeat first | refine EffG.mk (obA ?_) | refine obA ?_ | refine chkA ?_ | refine brY ?_ | refine brN ?_
  refine callA haw [] ?_
  repeat first | refine EffG.mk (obA ?_) | refine obA ?_ | refine chkA ?_ | refine brY ?_ | refine brN ?_
  refine retA [0]
theorem plays_nil_ac (master : List (BitVec 8)) (hm : master.length = 32) :
    AC Tryd.prog 4 [.nilslice, .u8s master] 0 [gR] ⟨.bool true, [], []⟩ := by
  have haw := slawake_ac
  have hf := tab_fit tab0_ok
  have hq : (tabD tab0).eqb (tabD tab0) = true := by rw [tab_eqb]; exact decide_eq_true rfl
  refine acA tab mix Tryd.func4 ⟨[], [7]⟩ ?_
  repeat first | refine EffG.mk (obA ?_) | refine obA ?_ | refine chkA ?_ | refine brY ?_ | refine brN ?_
  refine unrG 1 ?_
  repeat first | refine EffG.mk (obA ?_) | refine obA ?_ | refine chkA ?_ | refine brY ?_ | refine brN ?_
  refine callA haw [] ?_
  repeat first | refine EffG.mk (obA ?_) | refine obA ?_ | refine chkA ?_ | refine brY ?_ | refine brN ?_
  refine retA []

set_option maxHeartbeats 8000000 in
theorem plays_ac (A : List ActS) (k cap : Nat) (master : List (BitVec 8)) (hm : master.length = 32) (hk : A.length = k) (hk2 : k ≤ 12) (hok : ∀ a ∈ A, a.ok) :
    AC Tryd.prog 4 [.slice 0 [] 0 k (some cap), .u8s master] 25 (plMem A) ⟨.bool true, [], []⟩ := by
  have haw := slawake_ac
  have hlenA := actsD_length A 1
  have hrA := ren_actsD _ _ fix25 A 1 (by omega)
  have hrB := ren_actsD _ _ fix25r A 1 (by omega)
  refine acA tab mix Tryd.func4 {} ?_
  repeat first | refine EffG.mk (obA ?_) | refine obA ?_ | refine chkA ?_ | refine brY ?_ | refine brN ?_
  refine loopG (Nat × List Slot) (fun y => [(0, .slice 0 [] 0 k (some cap)), (3, .ptr 25 []), (5, .ptr 26 []), (6, .ptr 27 []), (7, .bool true), (8, .i64 y.1)])
    (fun y => (0, some ⟨.row tAct, .node (actsD 1 A), false⟩) :: (1, some ⟨.row .cell, .u8s (A.getD 0 a0).ks, false⟩) :: (2, some ⟨.row .cell, .u8s (A.getD 0 a0).fs, false⟩) :: (3, some ⟨.row .cell, .u8s (A.getD 1 a0).ks, false⟩) :: (4, some ⟨.row .cell, .u8s (A.getD 1 a0).fs, false⟩) :: (5, some ⟨.row .cell, .u8s (A.getD 2 a0).ks, false⟩) :: (6, some ⟨.row .cell, .u8s (A.getD 2 a0).fs, false⟩) :: (7, some ⟨.row .cell, .u8s (A.getD 3 a0).ks, false⟩) :: (8, some ⟨.row .cell, .u8s (A.getD 3 a0).fs, false⟩) :: (9, some ⟨.row .cell, .u8s (A.getD 4 a0).ks, false⟩) :: (10, some ⟨.row .cell, .u8s (A.getD 4 a0).fs, false⟩) :: (11, some ⟨.row .cell, .u8s (A.getD 5 a0).ks, false⟩) :: (12, some ⟨.row .cell, .u8s (A.getD 5 a0).fs, false⟩) :: (13, some ⟨.row .cell, .u8s (A.getD 6 a0).ks, false⟩) :: (14, some ⟨.row .cell, .u8s (A.getD 6 a0).fs, false⟩) :: (15, some ⟨.row .cell, .u8s (A.getD 7 a0).ks, false⟩) :: (16, some ⟨.row .cell, .u8s (A.getD 7 a0).fs, false⟩) :: (17, some ⟨.row .cell, .u8s (A.getD 8 a0).ks, false⟩) :: (18, some ⟨.row .cell, .u8s (A.getD 8 a0).fs, false⟩) :: (19, some ⟨.row .cell, .u8s (A.getD 9 a0).ks, false⟩) :: (20, some ⟨.row .cell, .u8s (A.getD 9 a0).fs, false⟩) :: (21, some ⟨.row .cell, .u8s (A.getD 10 a0).ks, false⟩) :: (22, some ⟨.row .cell, .u8s (A.getD 10 a0).fs, false⟩) :: (23, some ⟨.row .cell, .u8s (A.getD 11 a0).ks, false⟩) :: (24, some ⟨.row .cell, .u8s (A.getD 11 a0).fs, false⟩) :: (25, some ⟨t32, .u8s master, true⟩) :: (26, some ⟨tTab, tabD y.2, true⟩) :: (27, some ⟨tTab, tabD y.2, true⟩) :: gRBK) 28
    (fun y => y.1 ≤ k ∧ TabS y.2) (fun y => k - y.1) (0, tab0) [0, 1, 2, 3, 4, 5, 6, 7, 8, 9, 10, 11, 12, 13, 14, 15, 16, 17, 18, 19, 20, 21, 22, 23, 24, 25, 26, 27] ⟨Nat.zero_le _, tab0_ok⟩ (viewA (h3 := ?_)) ?_
  · (repeat' (first | exact trivial | refine And.intro ⟨_, rfl, rfl, ?_, id⟩ ?_ | refine And.intro ⟨_, rfl, rfl, ?_, fun _ => rfl⟩ ?_)) <;> first | rfl | exact (Pure.ren _).symm | exact congrArg D.node hrA.symm
  rintro ⟨i, l⟩ hI
  obtain ⟨hi, hl⟩ := hI
  have hi : i ≤ k := hi
  have hl : TabS l := hl
  have hT := hl.ty
  repeat first | refine EffG.mk (obA ?_) | refine obA ?_ | refine chkA ?_
  refine Br.split (fun h => ?_) (fun h => ?_)
  · have hi : i < k := by have := of_decide_eq_true h; omega
    have hcs : i = 0 ∨ i = 1 ∨ i = 2 ∨ i = 3 ∨ i = 4 ∨ i = 5 ∨ i = 6 ∨ i = 7 ∨ i = 8 ∨ i = 9 ∨ i = 10 ∨ i = 11 := by omega
    rcases hcs with rfl | rfl | rfl | rfl | rfl | rfl | rfl | rfl | rfl | rfl | rfl | rfl
    · have hoka := acts_at hok (i := 0) (by omega)
      have hn : nthD (actsD 1 A) (0 + Int.toNat ((0 : Nat) : Int)) = actAt 1 2 (A.getD 0 a0) := nthD_acts A 1 0 (by omega)
      generalize A.getD 0 a0 = a at hoka hn ⊢
      obtain ⟨kd, ks, fs, x, x2, salt, n⟩ := a
      obtain ⟨hx, hx2, hs⟩ := hoka
      have hx : x = none → ks.length = 0 := hx
      have hx2 : x2 = none → fs.length = 0 := hx2
      have hs : salt.length = 16 := hs
      obtain ⟨t, e, ht, hdo⟩ := do_ac ks fs l salt master kd ks.length fs.length n x x2 rfl hx rfl hx2 hl hs hm
      have hTt := ht.ty
      cases x <;> cases x2
      all_goals
        repeat first | refine EffG.mk (obA ?_) | refine obA ?_ | refine chkA ?_
        rw [hn]
        repeat first | refine EffG.mk (obA ?_) | refine obA ?_ | refine chkA ?_
        refine callT hdo [1, 2] (.tup [tabD t, tabD t, .i64 e, .bool true]) ?_ (hr := by show D.tup [(tabD t).ren _, (tabD t).ren _, .i64 e, .bool true] = _; rw [ren_tab]) (hargs := by simp only [D.rens, ren_slD, ren_tab]; rfl)
        repeat first | refine EffG.mk (obA ?_) | refine obA ?_ | refine chkA ?_
        refine EffG.mk (And.intro ⟨trivial, hTt⟩ ?_)
        repeat first | refine EffG.mk (obA ?_) | refine obA ?_ | refine chkA ?_
        refine EffG.mk (And.intro ⟨trivial, hTt⟩ ?_)
        repeat first | refine EffG.mk (obA ?_) | refine obA ?_ | refine chkA ?_ | refine brY ?_ | refine brN ?_
        refine nextA (0 + 1, t) [0, 1, 2, 3, 4, 5, 6, 7, 8, 9, 10, 11, 12, 13, 14, 15, 16, 17, 18, 19, 20, 21, 22, 23, 24, 25, 26, 27] (viewA (h3 := ?_)) (h1 := ⟨by show 0 + 1 ≤ k; omega, ht⟩) (h2 := by show k - (0 + 1) < k - 0; omega)
        (repeat' (first | exact trivial | refine And.intro ⟨_, rfl, rfl, ?_, id⟩ ?_ | refine And.intro ⟨_, rfl, rfl, ?_, fun _ => rfl⟩ ?_)) <;> first | rfl | exact (Pure.ren _).symm | exact congrArg D.node hrA.symm
    · have hoka := acts_at hok (i := 1) (by omega)
      have hn : nthD (actsD 1 A) (0 + Int.toNat ((1 : Nat) : Int)) = actAt 3 4 (A.getD 1 a0) := nthD_acts A 1 1 (by omega)
      generalize A.getD 1 a0 = a at hoka hn ⊢
      obtain ⟨kd, ks, fs, x, x2, salt, n⟩ := a
      obtain ⟨hx, hx2, hs⟩ := hoka
      have hx : x = none → ks.length = 0 := hx
      have hx2 : x2 = none → fs.length = 0 := hx2
      have hs : salt.length = 16 := hs
      obtain ⟨t, e, ht, hdo⟩ := do_ac ks fs l salt master kd ks.length fs.length n x x2 rfl hx rfl hx2 hl hs hm
      have hTt := ht.ty
      cases x <;> cases x2
      all_goals
        repeat first | refine EffG.mk (obA ?_) | refine obA ?_ | refine chkA ?_
        rw [hn]
        repeat first | refine EffG.mk (obA ?_) | refine obA ?_ | refine chkA ?_
        refine callT hdo [3, 4] (.tup [tabD t, tabD t, .i64 e, .bool true]) ?_ (hr := by show D.tup [(tabD t).ren _, (tabD t).ren _, .i64 e, .bool true] = _; rw [ren_tab]) (hargs := by simp only [D.rens, ren_slD, ren_tab]; rfl)
        repeat first | refine EffG.mk (obA ?_) | refine obA ?_ | refine chkA ?_
        refine EffG.mk (And.intro ⟨trivial, hTt⟩ ?_)
        repeat first | refine EffG.mk (obA ?_) | refine obA ?_ | refine chkA ?_
        refine EffG.mk (And.intro ⟨trivial, hTt⟩ ?_)
        repeat first | refine EffG.mk (obA ?_) | refine obA ?_ | refine chkA ?_ | refine brY ?_ | refine brN ?_
        refine nextA (1 + 1, t) [0, 1, 2, 3, 4, 5, 6, 7, 8, 9, 10, 11, 12, 13, 14, 15, 16, 17, 18, 19, 20, 21, 22, 23, 24, 25, 26, 27] (viewA (h3 := ?_)) (h1 := ⟨by show 1 + 1 ≤ k; omega, ht⟩) (h2 := by show k - (1 + 1) < k - 1; omega)
        (repeat' (first | exact trivial | refine And.intro ⟨_, rfl, rfl, ?_, id⟩ ?_ | refine And.intro ⟨_, rfl, rfl, ?_, fun _ => rfl⟩ ?_)) <;> first | rfl | exact (Pure.ren _).symm | exact congrArg D.node hrA.symm
    · have hoka := acts_at hok (i := 2) (by omega)
      have hn : nthD (actsD 1 A) (0 + Int.toNat ((2 : Nat) : Int)) = actAt 5 6 (A.getD 2 a0) := nthD_acts A 1 2 (by omega)
      generalize A.getD 2 a0 = a at hoka hn ⊢
      obtain ⟨kd, ks, fs, x, x2, salt, n⟩ := a
      obtain ⟨hx, hx2, hs⟩ := hoka
      have hx : x = none → ks.length = 0 := hx
      have hx2 : x2 = none → fs.length = 0 := hx2
      have hs : salt.length = 16 := hs
      obtain ⟨t, e, ht, hdo⟩ := do_ac ks fs l salt master kd ks.length fs.length n x x2 rfl hx rfl hx2 hl hs hm
      have hTt := ht.ty
      cases x <;> cases x2
      all_goals
        repeat first | refine EffG.mk (obA ?_) | refine obA ?_ | refine chkA ?_
        rw [hn]
        repeat first | refine EffG.mk (obA ?_) | refine obA ?_ | refine chkA ?_
        refine callT hdo [5, 6] (.tup [tabD t, tabD t, .i64 e, .bool true]) ?_ (hr := by show D.tup [(tabD t).ren _, (tabD t).ren _, .i64 e, .bool true] = _; rw [ren_tab]) (hargs := by simp only [D.rens, ren_slD, ren_tab]; rfl)
        repeat first | refine EffG.mk (obA ?_) | refine obA ?_ | refine chkA ?_
        refine EffG.mk (And.intro ⟨trivial, hTt⟩ ?_)
        repeat first | refine EffG.mk (obA ?_) | refine obA ?_ | refine chkA ?_
        refine EffG.mk (And.intro ⟨trivial, hTt⟩ ?_)
        repeat first | refine EffG.mk (obA ?_) | refine obA ?_ | refine chkA ?_ | refine brY ?_ | refine brN ?_
        refine nextA (2 + 1, t) [0, 1, 2, 3, 4, 5, 6, 7, 8, 9, 10, 11, 12, 13, 14, 15, 16, 17, 18, 19, 20, 21, 22, 23, 24, 25, 26, 27] (viewA (h3 := ?_)) (h1 := ⟨by show 2 + 1 ≤ k; omega, ht⟩) (h2 := by show k - (2 + 1) < k - 2; omega)
        (repeat' (first | exact trivial | refine And.intro ⟨_, rfl, rfl, ?_, id⟩ ?_ | refine And.intro ⟨_, rfl, rfl, ?_, fun _ => rfl⟩ ?_)) <;> first | rfl | exact (Pure.ren _).symm | exact congrArg D.node hrA.symm
    · have hoka := acts_at hok (i := 3) (by omega)
      have hn : nthD (actsD 1 A) (0 + Int.toNat ((3 : Nat) : Int)) = actAt 7 8 (A.getD 3 a0) := nthD_acts A 1 3 (by omega)
      generalize A.getD 3 a0 = a at hoka hn ⊢
      obtain ⟨kd, ks, fs, x, x2, salt, n⟩ := a
      obtain ⟨hx, hx2, hs⟩ := hoka
      have hx : x = none → ks.length = 0 := hx
      have hx2 : x2 = none → fs.length = 0 := hx2
      have hs : salt.length = 16 := hs
      obtain ⟨t, e, ht, hdo⟩ := do_ac ks fs l salt master kd ks.length fs.length n x x2 rfl hx rfl hx2 hl hs hm
      have hTt := ht.ty
      cases x <;> cases x2
      all_goals
        repeat first | refine EffG.mk (obA ?_) | refine obA ?_ | refine chkA ?_
        rw [hn]
        repeat first | refine EffG.mk (obA ?_) | refine obA ?_ | refine chkA ?_
        refine callT hdo [7, 8] (.tup [tabD t, tabD t, .i64 e, .bool true]) ?_ (hr := by show D.tup [(tabD t).ren _, (tabD t).ren _, .i64 e, .bool true] = _; rw [ren_tab]) (hargs := by simp only [D.rens, ren_slD, ren_tab]; rfl)
        repeat first | refine EffG.mk (obA ?_) | refine obA ?_ | refine chkA ?_
        refine EffG.mk (And.intro ⟨trivial, hTt⟩ ?_)
        repeat first | refine EffG.mk (obA ?_) | refine obA ?_ | refine chkA ?_
        refine EffG.mk (And.intro ⟨trivial, hTt⟩ ?_)
        repeat first | refine EffG.mk (obA ?_) | refine obA ?_ | refine chkA ?_ | refine brY ?_ | refine brN ?_
        refine nextA (3 + 1, t) [0, 1, 2, 3, 4, 5, 6, 7, 8, 9, 10, 11, 12, 13, 14, 15, 16, 17, 18, 19, 20, 21, 22, 23, 24, 25, 26, 27] (viewA (h3 := ?_)) (h1 := ⟨by show 3 + 1 ≤ k; omega, ht⟩) (h2 := by show k - (3 + 1) < k - 3; omega)
        (repeat' (first | exact trivial | refine And.intro ⟨_, rfl, rfl, ?_, id⟩ ?_ | refine And.intro ⟨_, rfl, rfl, ?_, fun _ => rfl⟩ ?_)) <;> first | rfl | exact (Pure.ren _).symm | exact congrArg D.node hrA.symm
    · have hoka := acts_at hok (i := 4) (by omega)
      have hn : nthD (actsD 1 A) (0 + Int.toNat ((4 : Nat) : Int)) = actAt 9 10 (A.getD 4 a0) := nthD_acts A 1 4 (by omega)
      generalize A.getD 4 a0 = a at hoka hn ⊢
      obtain ⟨kd, ks, fs, x, x2, salt, n⟩ := a
      obtain ⟨hx, hx2, hs⟩ := hoka
      have hx : x = none → ks.length = 0 := hx
      have hx2 : x2 = none → fs.length = 0 := hx2
      have hs : salt.length = 16 := hs
      obtain ⟨t, e, ht, hdo⟩ := do_ac ks fs l salt master kd ks.length fs.length n x x2 rfl hx rfl hx2 hl hs hm
      have hTt := ht.ty
      cases x <;> cases x2
      all_goals
        repeat first | refine EffG.mk (obA ?_) | refine obA ?_ | refine chkA ?_
        rw [hn]
        repeat first | refine EffG.mk (obA ?_) | refine obA ?_ | refine chkA ?_
        refine callT hdo [9, 10] (.tup [tabD t, tabD t, .i64 e, .bool true]) ?_ (hr := by show D.tup [(tabD t).ren _, (tabD t).ren _, .i64 e, .bool true] = _; rw [ren_tab]) (hargs := by simp only [D.rens, ren_slD, ren_tab]; rfl)
        repeat first | refine EffG.mk (obA ?_) | refine obA ?_ | refine chkA ?_
        refine EffG.mk (And.intro ⟨trivial, hTt⟩ ?_)
        repeat first | refine EffG.mk (obA ?_) | refine obA ?_ | refine chkA ?_
        refine EffG.mk (And.intro ⟨trivial, hTt⟩ ?_)
        repeat first | refine EffG.mk (obA ?_) | refine obA ?_ | refine chkA ?_ | refine brY ?_ | refine brN ?_
        refine nextA (4 + 1, t) [0, 1, 2, 3, 4, 5, 6, 7, 8, 9, 10, 11, 12, 13, 14, 15, 16, 17, 18, 19, 20, 21, 22, 23, 24, 25, 26, 27] (viewA (h3 := ?_)) (h1 := ⟨by show 4 + 1 ≤ k; omega, ht⟩) (h2 := by show k - (4 + 1) < k - 4; omega)
        (repeat' (first | exact trivial | refine And.intro ⟨_, rfl, rfl, ?_, id⟩ ?_ | refine And.intro ⟨_, rfl, rfl, ?_, fun _ => rfl⟩ ?_)) <;> first | rfl | exact (Pure.ren _).symm | exact congrArg D.node hrA.symm
    · have hoka := acts_at hok (i := 5) (by omega)
      have hn : nthD (actsD 1 A) (0 + Int.toNat ((5 : Nat) : Int)) = actAt 11 12 (A.getD 5 a0) := nthD_acts A 1 5 (by omega)
      generalize A.getD 5 a0 = a at hoka hn ⊢
      obtain ⟨kd, ks, fs, x, x2, salt, n⟩ := a
      obtain ⟨hx, hx2, hs⟩ := hoka
      have hx : x = none → ks.length = 0 := hx
      have hx2 : x2 = none → fs.length = 0 := hx2
      have hs : salt.length = 16 := hs
      obtain ⟨t, e, ht, hdo⟩ := do_ac ks fs l salt master kd ks.length fs.length n x x2 rfl hx rfl hx2 hl hs hm
      have hTt := ht.ty
      cases x <;> cases x2
      all_goals
        repeat first | refine EffG.mk (obA ?_) | refine obA ?_ | refine chkA ?_
        rw [hn]
        repeat first | refine EffG.mk (obA ?_) | refine obA ?_ | refine chkA ?_
        refine callT hdo [11, 12] (.tup [tabD t, tabD t, .i64 e, .bool true]) ?_ (hr := by show D.tup [(tabD t).ren _, (tabD t).ren _, .i64 e, .bool true] = _; rw [ren_tab]) (hargs := by simp only [D.rens, ren_slD, ren_tab]; rfl)
        repeat first | refine EffG.mk (obA ?_) | refine obA ?_ | refine chkA ?_
        refine EffG.mk (And.intro ⟨trivial, hTt⟩ ?_)
        repeat first | refine EffG.mk (obA ?_) | refine obA ?_ | refine chkA ?_
        refine EffG.mk (And.intro ⟨trivial, hTt⟩ ?_)
        repeat first | refine EffG.mk (obA ?_) | refine obA ?_ | refine chkA ?_ | refine brY ?_ | refine brN ?_
        refine nextA (5 + 1, t) [0, 1, 2, 3, 4, 5, 6, 7, 8, 9, 10, 11, 12, 13, 14, 15, 16, 17, 18, 19, 20, 21, 22, 23, 24, 25, 26, 27] (viewA (h3 := ?_)) (h1 := ⟨by show 5 + 1 ≤ k; omega, ht⟩) (h2 := by show k - (5 + 1) < k - 5; omega)
        (repeat' (first | exact trivial | refine And.intro ⟨_, rfl, rfl, ?_, id⟩ ?_ | refine And.intro ⟨_, rfl, rfl, ?_, fun _ => rfl⟩ ?_)) <;> first | rfl | exact (Pure.ren _).symm | exact congrArg D.node hrA.symm
    · have hoka := acts_at hok (i := 6) (by omega)
      have hn : nthD (actsD 1 A) (0 + Int.toNat ((6 : Nat) : Int)) = actAt 13 14 (A.getD 6 a0) := nthD_acts A 1 6 (by omega)
      generalize A.getD 6 a0 = a at hoka hn ⊢
      obtain ⟨kd, ks, fs, x, x2, salt, n⟩ := a
      obtain ⟨hx, hx2, hs⟩ := hoka
      have hx : x = none → ks.length = 0 := hx
      have hx2 : x2 = none → fs.length = 0 := hx2
      have hs : salt.length = 16 := hs
      obtain ⟨t, e, ht, hdo⟩ := do_ac ks fs l salt master kd ks.length fs.length n x x2 rfl hx rfl hx2 hl hs hm
      have hTt := ht.ty
      cases x <;> cases x2
      all_goals
        repeat first | refine EffG.mk (obA ?_) | refine obA ?_ | refine chkA ?_
        rw [hn]
        repeat first | refine EffG.mk (obA ?_) | refine obA ?_ | refine chkA ?_
        refine callT hdo [13, 14] (.tup [tabD t, tabD t, .i64 e, .bool true]) ?_ (hr := by show D.tup [(tabD t).ren _, (tabD t).ren _, .i64 e, .bool true] = _; rw [ren_tab]) (hargs := by simp only [D.rens, ren_slD, ren_tab]; rfl)
        repeat first | refine EffG.mk (obA ?_) | refine obA ?_ | refine chkA ?_
        refine EffG.mk (And.intro ⟨trivial, hTt⟩ ?_)
        repeat first | refine EffG.mk (obA ?_) | refine obA ?_ | refine chkA ?_
        refine EffG.mk (And.intro ⟨trivial, hTt⟩ ?_)
        repeat first | refine EffG.mk (obA ?_) | refine obA ?_ | refine chkA ?_ | refine brY ?_ | refine brN ?_
        refine nextA (6 + 1, t) [0, 1, 2, 3, 4, 5, 6, 7, 8, 9, 10, 11, 12, 13, 14, 15, 16, 17, 18, 19, 20, 21, 22, 23, 24, 25, 26, 27] (viewA (h3 := ?_)) (h1 := ⟨by show 6 + 1 ≤ k; omega, ht⟩) (h2 := by show k - (6 + 1) < k - 6; omega)
        (repeat' (first | exact trivial | refine And.intro ⟨_, rfl, rfl, ?_, id⟩ ?_ | refine And.intro ⟨_, rfl, rfl, ?_, fun _ => rfl⟩ ?_)) <;> first | rfl | exact (Pure.ren _).symm | exact congrArg D.node hrA.symm
    · have hoka := acts_at hok (i := 7) (by omega)
      have hn : nthD (actsD 1 A) (0 + Int.toNat ((7 : Nat) : Int)) = actAt 15 16 (A.getD 7 a0) := nthD_acts A 1 7 (by omega)
      generalize A.getD 7 a0 = a at hoka hn ⊢
      obtain ⟨kd, ks, fs, x, x2, salt, n⟩ := a
      obtain ⟨hx, hx2, hs⟩ := hoka
      have hx : x = none → ks.length = 0 := hx
      have hx2 : x2 = none → fs.length = 0 := hx2
      have hs : salt.length = 16 := hs
      obtain ⟨t, e, ht, hdo⟩ := do_ac ks fs l salt master kd ks.length fs.length n x x2 rfl hx rfl hx2 hl hs hm
      have hTt := ht.ty
      cases x <;> cases x2
      all_goals
        repeat first | refine EffG.mk (obA ?_) | refine obA ?_ | refine chkA ?_
        rw [hn]
        repeat first | refine EffG.mk (obA ?_) | refine obA ?_ | refine chkA ?_
        refine callT hdo [15, 16] (.tup [tabD t, tabD t, .i64 e, .bool true]) ?_ (hr := by show D.tup [(tabD t).ren _, (tabD t).ren _, .i64 e, .bool true] = _; rw [ren_tab]) (hargs := by simp only [D.rens, ren_slD, ren_tab]; rfl)
        repeat first | refine EffG.mk (obA ?_) | refine obA ?_ | refine chkA ?_
        refine EffG.mk (And.intro ⟨trivial, hTt⟩ ?_)
        repeat first | refine EffG.mk (obA ?_) | refine obA ?_ | refine chkA ?_
        refine EffG.mk (And.intro ⟨trivial, hTt⟩ ?_)
        repeat first | refine EffG.mk (obA ?_) | refine obA ?_ | refine chkA ?_ | refine brY ?_ | refine brN ?_
        refine nextA (7 + 1, t) [0, 1, 2, 3, 4, 5, 6, 7, 8, 9, 10, 11, 12, 13, 14, 15, 16, 17, 18, 19, 20, 21, 22, 23, 24, 25, 26, 27] (viewA (h3 := ?_)) (h1 := ⟨by show 7 + 1 ≤ k; omega, ht⟩) (h2 := by show k - (7 + 1) < k - 7; omega)
        (repeat' (first | exact trivial | refine And.intro ⟨_, rfl, rfl, ?_, id⟩ ?_ | refine And.intro ⟨_, rfl, rfl, ?_, fun _ => rfl⟩ ?_)) <;> first | rfl | exact (Pure.ren _).symm | exact congrArg D.node hrA.symm
    · have hoka := acts_at hok (i := 8) (by omega)
      have hn : nthD (actsD 1 A) (0 + Int.toNat ((8 : Nat) : Int)) = actAt 17 18 (A.getD 8 a0) := nthD_acts A 1 8 (by omega)
      generalize A.getD 8 a0 = a at hoka hn ⊢
      obtain ⟨kd, ks, fs, x, x2, salt, n⟩ := a
      obtain ⟨hx, hx2, hs⟩ := hoka
      have hx : x = none → ks.length = 0 := hx
      have hx2 : x2 = none → fs.length = 0 := hx2
      have hs : salt.length = 16 := hs
      obtain ⟨t, e, ht, hdo⟩ := do_ac ks fs l salt master kd ks.length fs.length n x x2 rfl hx rfl hx2 hl hs hm
      have hTt := ht.ty
      cases x <;> cases x2
      all_goals
        repeat first | refine EffG.mk (obA ?_) | refine obA ?_ | refine chkA ?_
        rw [hn]
        repeat first | refine EffG.mk (obA ?_) | refine obA ?_ | refine chkA ?_
        refine callT hdo [17, 18] (.tup [tabD t, tabD t, .i64 e, .bool true]) ?_ (hr := by show D.tup [(tabD t).ren _, (tabD t).ren _, .i64 e, .bool true] = _; rw [ren_tab]) (hargs := by simp only [D.rens, ren_slD, ren_tab]; rfl)
        repeat first | refine EffG.mk (obA ?_) | refine obA ?_ | refine chkA ?_
        refine EffG.mk (And.intro ⟨trivial, hTt⟩ ?_)
        repeat first | refine EffG.mk (obA ?_) | refine obA ?_ | refine chkA ?_
        refine EffG.mk (And.intro ⟨trivial, hTt⟩ ?_)
        repeat first | refine EffG.mk (obA ?_) | refine obA ?_ | refine chkA ?_ | refine brY ?_ | refine brN ?_
        refine nextA (8 + 1, t) [0, 1, 2, 3, 4, 5, 6, 7, 8, 9, 10, 11, 12, 13, 14, 15, 16, 17, 18, 19, 20, 21, 22, 23, 24, 25, 26, 27] (viewA (h3 := ?_)) (h1 := ⟨by show 8 + 1 ≤ k; omega, ht⟩) (h2 := by show k - (8 + 1) < k - 8; omega)
        (repeat' (first | exact trivial | refine And.intro ⟨_, rfl, rfl, ?_, id⟩ ?_ | refine And.intro ⟨_, rfl, rfl, ?_, fun _ => rfl⟩ ?_)) <;> first | rfl | exact (Pure.ren _).symm | exact congrArg D.node hrA.symm
    · have hoka := acts_at hok (i := 9) (by omega)
      have hn : nthD (actsD 1 A) (0 + Int.toNat ((9 : Nat) : Int)) = actAt 19 20 (A.getD 9 a0) := nthD_acts A 1 9 (by omega)
      generalize A.getD 9 a0 = a at hoka hn ⊢
      obtain ⟨kd, ks, fs, x, x2, salt, n⟩ := a
      obtain ⟨hx, hx2, hs⟩ := hoka
      have hx : x = none → ks.length = 0 := hx
      have hx2 : x2 = none → fs.length = 0 := hx2
      have hs : salt.length = 16 := hs
      obtain ⟨t, e, ht, hdo⟩ := do_ac ks fs l salt master kd ks.length fs.length n x x2 rfl hx rfl hx2 hl hs hm
      have hTt := ht.ty
      cases x <;> cases x2
      all_goals
        repeat first | refine EffG.mk (obA ?_) | refine obA ?_ | refine chkA ?_
        rw [hn]
        repeat first | refine EffG.mk (obA ?_) | refine obA ?_ | refine chkA ?_
        refine callT hdo [19, 20] (.tup [tabD t, tabD t, .i64 e, .bool true]) ?_ (hr := by show D.tup [(tabD t).ren _, (tabD t).ren _, .i64 e, .bool true] = _; rw [ren_tab]) (hargs := by simp only [D.rens, ren_slD, ren_tab]; rfl)
        repeat first | refine EffG.mk (obA ?_) | refine obA ?_ | refine chkA ?_
        refine EffG.mk (And.intro ⟨trivial, hTt⟩ ?_)
        repeat first | refine EffG.mk (obA ?_) | refine obA ?_ | refine chkA ?_
        refine EffG.mk (And.intro ⟨trivial, hTt⟩ ?_)
        repeat first | refine EffG.mk (obA ?_) | refine obA ?_ | refine chkA ?_ | refine brY ?_ | refine brN ?_
        refine nextA (9 + 1, t) [0, 1, 2, 3, 4, 5, 6, 7, 8, 9, 10, 11, 12, 13, 14, 15, 16, 17, 18, 19, 20, 21, 22, 23, 24, 25, 26, 27] (viewA (h3 := ?_)) (h1 := ⟨by show 9 + 1 ≤ k; omega, ht⟩) (h2 := by show k - (9 + 1) < k - 9; omega)
        (repeat' (first | exact trivial | refine And.intro ⟨_, rfl, rfl, ?_, id⟩ ?_ | refine And.intro ⟨_, rfl, rfl, ?_, fun _ => rfl⟩ ?_)) <;> first | rfl | exact (Pure.ren _).symm | exact congrArg D.node hrA.symm
    · have hoka := acts_at hok (i := 10) (by omega)
      have hn : nthD (actsD 1 A) (0 + Int.toNat ((10 : Nat) : Int)) = actAt 21 22 (A.getD 10 a0) := nthD_acts A 1 10 (by omega)
      generalize A.getD 10 a0 = a at hoka hn ⊢
      obtain ⟨kd, ks, fs, x, x2, salt, n⟩ := a
      obtain ⟨hx, hx2, hs⟩ := hoka
      have hx : x = none → ks.length = 0 := hx
      have hx2 : x2 = none → fs.length = 0 := hx2
      have hs : salt.length = 16 := hs
      obtain ⟨t, e, ht, hdo⟩ := do_ac ks fs l salt master kd ks.length fs.length n x x2 rfl hx rfl hx2 hl hs hm
      have hTt := ht.ty
      cases x <;> cases x2
      all_goals
        repeat first | refine EffG.mk (obA ?_) | refine obA ?_ | refine chkA ?_
        rw [hn]
        repeat first | refine EffG.mk (obA ?_) | refine obA ?_ | refine chkA ?_
        refine callT hdo [21, 22] (.tup [tabD t, tabD t, .i64 e, .bool true]) ?_ (hr := by show D.tup [(tabD t).ren _, (tabD t).ren _, .i64 e, .bool true] = _; rw [ren_tab]) (hargs := by simp only [D.rens, ren_slD, ren_tab]; rfl)
        repeat first | refine EffG.mk (obA ?_) | refine obA ?_ | refine chkA ?_
        refine EffG.mk (And.intro ⟨trivial, hTt⟩ ?_)
        repeat first | refine EffG.mk (obA ?_) | refine obA ?_ | refine chkA ?_
        refine EffG.mk (And.intro ⟨trivial, hTt⟩ ?_)
        repeat first | refine EffG.mk (obA ?_) | refine obA ?_ | refine chkA ?_ | refine brY ?_ | refine brN ?_
        refine nextA (10 + 1, t) [0, 1, 2, 3, 4, 5, 6, 7, 8, 9, 10, 11, 12, 13, 14, 15, 16, 17, 18, 19, 20, 21, 22, 23, 24, 25, 26, 27] (viewA (h3 := ?_)) (h1 := ⟨by show 10 + 1 ≤ k; omega, ht⟩) (h2 := by show k - (10 + 1) < k - 10; omega)
        (repeat' (first | exact trivial | refine And.intro ⟨_, rfl, rfl, ?_, id⟩ ?_ | refine And.intro ⟨_, rfl, rfl, ?_, fun _ => rfl⟩ ?_)) <;> first | rfl | exact (Pure.ren _).symm | exact congrArg D.node hrA.symm
    · have hoka := acts_at hok (i := 11) (by omega)
      have hn : nthD (actsD 1 A) (0 + Int.toNat ((11 : Nat) : Int)) = actAt 23 24 (A.getD 11 a0) := nthD_acts A 1 11 (by omega)
      generalize A.getD 11 a0 = a at hoka hn ⊢
      obtain ⟨kd, ks, fs, x, x2, salt, n⟩ := a
      obtain ⟨hx, hx2, hs⟩ := hoka
      have hx : x = none → ks.length = 0 := hx
      have hx2 : x2 = none → fs.length = 0 := hx2
      have hs : salt.length = 16 := hs
      obtain ⟨t, e, ht, hdo⟩ := do_ac ks fs l salt master kd ks.length fs.length n x x2 rfl hx rfl hx2 hl hs hm
      have hTt := ht.ty
      cases x <;> cases x2
      all_goals
        repeat first | refine EffG.mk (obA ?_) | refine obA ?_ | refine chkA ?_
        rw [hn]
        repeat first | refine EffG.mk (obA ?_) | refine obA ?_ | refine chkA ?_
        refine callT hdo [23, 24] (.tup [tabD t, tabD t, .i64 e, .bool true]) ?_ (hr := by show D.tup [(tabD t).ren _, (tabD t).ren _, .i64 e, .bool true] = _; rw [ren_tab]) (hargs := by simp only [D.rens, ren_slD, ren_tab]; rfl)
        repeat first | refine EffG.mk (obA ?_) | refine obA ?_ | refine chkA ?_
        refine EffG.mk (And.intro ⟨trivial, hTt⟩ ?_)
        repeat first | refine EffG.mk (obA ?_) | refine obA ?_ | refine chkA ?_
        refine EffG.mk (And.intro ⟨trivial, hTt⟩ ?_)
        repeat first | refine EffG.mk (obA ?_) | refine obA ?_ | refine chkA ?_ | refine brY ?_ | refine brN ?_
        refine nextA (11 + 1, t) [0, 1, 2, 3, 4, 5, 6, 7, 8, 9, 10, 11, 12, 13, 14, 15, 16, 17, 18, 19, 20, 21, 22, 23, 24, 25, 26, 27] (viewA (h3 := ?_)) (h1 := ⟨by show 11 + 1 ≤ k; omega, ht⟩) (h2 := by show k - (11 + 1) < k - 11; omega)
        (repeat' (first | exact trivial | refine And.intro ⟨_, rfl, rfl, ?_, id⟩ ?_ | refine And.intro ⟨_, rfl, rfl, ?_, fun _ => rfl⟩ ?_)) <;> first | rfl | exact (Pure.ren _).symm | exact congrArg D.node hrA.symm
  · have hf := tab_fit hl
    have hs := tab_same hl hl
    have hq : (tabD l).eqb (tabD l) = true := by rw [tab_eqb]; exact decide_eq_true rfl
    repeat first | refine EffG.mk (obA ?_) | refine obA ?_ | refine chkA ?_
    refine EffG.mk (And.intro ⟨hf, hf, hs⟩ ?_)
    rw [hq]
    repeat first | refine EffG.mk (obA ?_) | refine obA ?_ | refine chkA ?_ | refine brY ?_ | refine brN ?_
    refine callA haw [] ?_
    repeat first | refine EffG.mk (obA ?_) | refine obA ?_ | refine chkA ?_ | refine brY ?_ | refine brN ?_
    refine retA [0, 1, 2, 3, 4, 5, 6, 7, 8, 9, 10, 11, 12, 13, 14, 15, 16, 17, 18, 19, 20, 21, 22, 23, 24] (h3 := ?_)
    (repeat' (first | exact trivial | refine And.intro ⟨_, rfl, rfl, ?_, id⟩ ?_ | refine And.intro ⟨_, rfl, rfl, ?_, fun _ => rfl⟩ ?_)) <;> first | rfl | exact (Pure.ren _).symm | exact congrArg D.node hrB.symm
end Go.Proofs.YtodkhgofmgaafaaDoor.Av

namespace Go.Proofs.YtodkhgofmgaafaaDoor.Av
open Go Go.ChangeShapes Go.WideShapes
set_option linter.all false
set_option maxRecDepth 3000

/-! from a contract to a row of a law over plain data -/

theorem calls_bool {P : Program} {f : Nat} {args : List D} (h : AC P f args 0 [] ⟨.bool true, [], []⟩) {W : World} {vals : List Value} (hv : All2 (Rep (fun _ => none)) args vals) :
    Calls P f vals.toArray W fun e W' => e = .returned (.bool true) ∧ W'.os = W.os ∧ W'.output = W.output ∧ W.heap.size ≤ W'.heap.size ∧ ∀ b, b < W.heap.size → W'.heap[b]? = W.heap[b]? := by
  refine (h.2 (fun _ => none) W vals hv ⟨(fun _ _ h => nomatch h), (fun i e h => nomatch h), (fun i j ei ej Li Lj h => nomatch h), (fun i e L h => nomatch h), fun _ _ _ => rfl, Nat.le_refl _, rfl, rfl, rfl⟩ (fun i h => absurd rfl h)).mono fun e W' ⟨v, ρ', he, _, _, hr, hI⟩ => ?_
  have hr : v = .bool true := hr
  subst hr
  exact ⟨he, hI.os, hI.out, hI.size, fun b hb => hI.ext b hb (fun ⟨i, e, L, h, _⟩ => nomatch h)⟩

/-- the same, where the code reads one of the package's variables -/
theorem calls_bool_g {P : Program} {f : Nat} {args : List D} (g : Nat) {T : Ty} {d : D} (h : AC P f args 0 [(gid g, some ⟨T, d, false⟩)] ⟨.bool true, [], []⟩) {W : World} {vals : List Value} (hv : All2 (Rep (fun _ => none)) args vals)
    {L : Loc} (hL : L.blk = g ∧ L.base = 0) (hs : SatE (fun _ => none) ⟨T, d, false⟩ L W) :
    Calls P f vals.toArray W fun e W' => e = .returned (.bool true) ∧ W'.os = W.os ∧ W'.output = W.output ∧ W.heap.size ≤ W'.heap.size ∧ ∀ b, b < W.heap.size → W'.heap[b]? = W.heap[b]? := by
  let ρ0 : Env := fun i => if i = gid g then some L else none
  have hle : Env.le (fun _ => none) ρ0 := fun i L h => by cases h
  have hget : ∀ i e, get [(gid g, some ⟨T, d, false⟩)] i = some e → i = gid g ∧ e = ⟨T, d, false⟩ := fun i e h => by
    rw [get_cons] at h
    split at h
    · rename_i e1; cases h; exact ⟨e1.symm, rfl⟩
    · cases h
  refine (h.2 ρ0 W vals (hv.mono fun a b hab => Rep.mono hle hab)
    ⟨fun g' L' h' => ?_, fun i e hi => ?_, fun i j ei ej Li Lj hi hj hne hr => ?_, fun i e L' hi hr => ?_, fun _ _ _ => rfl, Nat.le_refl _, rfl, rfl, rfl⟩ (fun i hi => ?_)).mono fun e W' ⟨v, ρ', he, _, _, hr, hI⟩ => ?_
  · have h' : (if gid g' = gid g then some L else none) = some L' := h'
    split at h'
    · rename_i e1
      cases h'
      have : g' = g := by unfold gid at e1; omega
      rw [this]; exact hL
    · cases h'
  · obtain ⟨rfl, rfl⟩ := hget i e hi
    exact ⟨L, if_pos rfl, hs.mono hle⟩
  · obtain ⟨_, rfl⟩ := hget i ei hi
    cases hr
  · obtain ⟨_, rfl⟩ := hget i e hi
    cases hr
  · have hi : (if i = gid g then some L else none) ≠ none := hi
    split at hi
    · rename_i e1
      right; rw [e1]; unfold gid; omega
    · exact absurd rfl hi
  · have hr : v = .bool true := hr
    subst hr
    refine ⟨he, hI.os, hI.out, hI.size, fun b hb => hI.ext b hb (fun ⟨i, e, L', h1, h2, _⟩ => ?_)⟩
    obtain ⟨_, rfl⟩ := hget i e h1
    cases h2

/-- a variable that is an array of bytes, as its reading says -/
theorem sat_u8s {P : Program} {W : World} {name : String} {g t e n : Nat} (hg : P.globalNamed name = some g) (hty : (P.globals[g]?).map (·.type) = some t) (ht : P.underlying t = some (.array n e)) (he : P.underlying e = some (.int .u8))
    (hc : P.cellsOf e = 1) (hs : P.cellsOf t = n) {l : List (BitVec 8)} (hl : l.length = n) (h : Lib.VarReads P W name (.agg (l.map fun b => .lit (.int .u8 b.toNat)))) :
    SatE (fun _ => none) ⟨.arr n .cell, .u8s l, false⟩ ⟨g, 0, n, .arr n .cell⟩ W := by
  obtain ⟨g', t', cs, fuel, p, q1, q2, q3, q4⟩ := h
  obtain rfl := Option.some.inj (hg.symm.trans q1)
  obtain rfl := Option.some.inj (hty.symm.trans q2)
  have hcs : cs.toList = (l.map fun b => (b.toNat : Int)).map fun z => Value.int .u8 z := by
    have q5 : DataW.trod (fun _ => ()) P W 0 (fun _ => true) false fuel t cs.toList = some (Lib.tabData .u8 (l.map fun b => (b.toNat : Int)), p) := by
      rw [q4]; unfold Lib.tabData; rw [List.map_map]; rfl
    exact Lib.cells_of_tab ht he hc hs q5
  simp only [World.var?, hg, Option.bind_some] at q3
  split at q3 <;> try contradiction
  rename_i C T fr hC
  cases q3
  have hlen : cs.size = n := by
    have := congrArg List.length hcs
    simpa [hl] using this
  refine ⟨rfl, ?_, hl, cs, T, fr, [], cs.toList, [], hC, by simp, rfl, hlen, ?_, fun h => by cases h⟩
  · exact trivial
  · rw [hcs, List.map_map]
    show All2 _ (l.map D.u8) _
    have : ∀ l : List (BitVec 8), All2 (RepS (fun _ => none)) (l.map D.u8) (l.map ((fun z => Value.int .u8 z) ∘ fun b => (b.toNat : Int))) := by
      intro l
      induction l with
      | nil => trivial
      | cons a r ih => exact ⟨rfl, ih⟩
    exact this l

theorem rep_u8 {ρ : Env} {n : Int} (h : (Lit.int .u8 n).wf = true) : Rep ρ (.u8 (BitVec.ofNat 8 n.toNat)) (.int .u8 n) := by
  simp only [Lit.wf, Bool.and_eq_true, decide_eq_true_eq] at h
  have h1 : (0 : Int) ≤ n := h.1
  have h2 : n < 256 := by
    have := h.2
    have e : IntKind.u8.max = 255 := by decide
    omega
  show Value.int _ _ = .int _ _
  congr 1
  simp; omega

theorem kept_of_same {W W' : World} (ho : W'.os = W.os) (hp : W'.output = W.output) (hs : ∀ b, b < W.heap.size → W'.heap[b]? = W.heap[b]?) (may : MemPlace → Prop) : W.keptBut W' may := by
  refine ⟨ho, hp, fun i hi => ?_⟩
  rw [hs i hi]
  split
  · rename_i h1 h2
    rw [h1] at h2; cases h2
    exact ⟨rfl, rfl, rfl, fun _ _ => rfl⟩
  · rename_i h1 h2
    rw [h1] at h2; cases h2
    exact .inr ⟨rfl, rfl⟩
  · rfl

section
variable {H : Type} {enc : TypeId × Value → H} {P : Program}
theorem post_flat {f : Func} {s : ChangeSpec} {apart fresh handsOn : Bool} {W W' : World} {args : Array Value} {v : Value} {ds gs : List (DataW H)}
    (hW : DataW.Whole enc P f.params.toList s.vars apart W args.toList ds gs [])
    (hres : ∀ (b : Nat) (sp : Nat → Bool) (hd : Bool), DataW.TrodAll enc P W' b sp hd f.resultTypes.toList (v.resultList f.resultTypes.size) (s.fn H (ds ++ gs)).results [])
    (hargs : ∀ sp : Nat → Bool, DataW.TrodAll enc P W' 0 sp true f.params.toList args.toList (s.fn H (ds ++ gs)).args [])
    (hvars : ∀ sp : Nat → Bool, DataW.TrodVars enc P W' sp s.vars (s.fn H (ds ++ gs)).vars [])
    (hk : W.keptBut W' (fun _ => False)) : s.post enc P f apart fresh handsOn false W args v W' :=
  ⟨ds, gs, [], [], [], [], hW, hres _ _ _, hargs _, hvars _, World.keptBut_mono (fun _ h => h.elim) hk, (fun h => nomatch h)⟩

theorem mapM_none {α β : Type} {f g : α → Option (β × List MemPlace)} : ∀ {l : List α} {r : List (β × List MemPlace)}, l.mapM f = some r → (∀ x y, x ∈ l → f x = some y → y.2 = [] ∧ g x = some y) → l.mapM g = some r ∧ r.flatMap (·.2) = []
  | [], r, h, _ => by
    simp at h; subst h; exact ⟨rfl, rfl⟩
  | a :: l, r, h, hfg => by
    rw [List.mapM_cons] at h ⊢
    simp only [bind, Option.bind_eq_some_iff, pure, Option.some.injEq] at h
    obtain ⟨y, hy, ys, hys, rfl⟩ := h
    obtain ⟨h1, h2⟩ := hfg a y (by simp) hy
    obtain ⟨h3, h4⟩ := mapM_none hys (fun x y hx => hfg x y (List.mem_cons_of_mem _ hx))
    rw [h2, h3]
    exact ⟨rfl, by rw [List.flatMap_cons, h1, h4]; rfl⟩

/-- an array of bytes by value: its bytes; it reads so anywhere -/
theorem open_u8s {t e : TypeId} {n : Nat} (ht : P.underlying t = some (.array n e)) (he : P.underlying e = some (.int .u8)) (hc : P.cellsOf e = 1) (hs : P.cellsOf t = n) {r : Reach} {b0 base : Nat} {W : World} {v : Value} {d : DataW H} {ps : List MemPlace}
    {sp : Nat → Bool} {held : Bool} (hval : Value.okWide P W r b0 t v) (hd : DataW.Trod enc P W base sp held t v d ps) :
    ∃ l : List (BitVec 8), l.length = n ∧ ps = [] ∧ (∀ ρ, Rep ρ (.u8s l) v) ∧ ∀ (W' : World) (base' : Nat) (sp' : Nat → Bool) (held' : Bool), DataW.Trod enc P W' base' sp' held' t v d [] := by
  simp only [Value.okWide, ht] at hval
  obtain ⟨xs, rfl, hn, _⟩ := hval
  obtain ⟨fuel, hf⟩ := hd
  have hcells : (Value.agg xs).cells.toList = xs.toList := by simp [Value.cells]
  rw [hcells] at hf
  obtain ⟨ys, m, rfl, hx, hl, hys, hi⟩ := DataW.trod_array ht hf
  have hcell : ∀ i, i < n → ∃ a, (xs.toList.drop (i * P.cellsOf e)).take (P.cellsOf e) = [.int .u8 a] ∧ (Lit.int .u8 a).wf = true := by
    intro i hin
    have h := hi i hin
    rw [List.getElem?_eq_getElem (by omega)] at h
    obtain ⟨a, h1, _, h2⟩ := DataW.trod_int he h
    exact ⟨a, h1, h2⟩
  have hget : ∀ i, i < n → ∃ a, xs.toList[i]? = some (.int .u8 a) ∧ (Lit.int .u8 a).wf = true := by
    intro i hin
    obtain ⟨a, h1, h2⟩ := hcell i hin
    rw [hc, Nat.mul_one] at h1
    refine ⟨a, ?_, h2⟩
    have := congrArg (·[0]?) h1
    simpa [List.getElem?_take, List.getElem?_drop] using this
  have hlen : xs.toList.length = n := by rw [hl, hs]
  have key : ∀ (cs : List Value), (∀ i, i < cs.length → ∃ a, cs[i]? = some (.int .u8 a) ∧ (Lit.int .u8 a).wf = true) → ∃ l : List (BitVec 8), l.length = cs.length ∧ ∀ ρ, All2 (RepS ρ) (l.map D.u8) cs := by
    intro cs
    induction cs with
    | nil => intro _; exact ⟨[], rfl, fun _ => trivial⟩
    | cons c cs ih =>
      intro h
      obtain ⟨a, h1, h2⟩ := h 0 (by simp)
      simp at h1; subst h1
      obtain ⟨l, h3, h4⟩ := ih (fun i hi => by simpa using h (i + 1) (by simpa using hi))
      exact ⟨BitVec.ofNat 8 a.toNat :: l, by simp [h3], fun ρ => ⟨rep_u8 (ρ := ρ) h2, h4 ρ⟩⟩
  obtain ⟨l, h1, h2⟩ := key xs.toList (by rw [hlen]; exact hget)
  have hstay : ∀ (W' : World) (base' : Nat) (sp' : Nat → Bool) (held' : Bool), DataW.trod enc P W' base' sp' held' (m + 1) t xs.toList = some (d, ps) ∧ ps = [] := by
    intro W' base' sp' held'
    unfold DataW.trod at hf ⊢
    rw [ht] at hf ⊢
    simp only [hl, if_true, Option.map_eq_some_iff] at hf ⊢
    obtain ⟨zs, hz, hzx⟩ := hf
    obtain ⟨h3, h4⟩ := mapM_none (g := fun i => DataW.trod enc P W' base' sp' held' m e ((xs.toList.drop (i * P.cellsOf e)).take (P.cellsOf e))) hz (fun i y _ hy => by
      obtain ⟨a, e1, e2, e3⟩ := DataW.trod_int he hy
      rw [e2]
      refine ⟨rfl, ?_⟩
      rw [e1]
      cases m with
      | zero => simp [DataW.trod] at hy
      | succ m => simp [DataW.trod, he, e3])
    refine ⟨⟨zs, h3, hzx⟩, ?_⟩
    have := congrArg Prod.snd hzx
    exact this.symm.trans h4
  refine ⟨l, by rw [h1, hlen], (hstay W 0 sp held).2, fun ρ => ⟨xs.toList, by simp, h2 ρ⟩, fun W' base' sp' held' => ?_⟩
  obtain ⟨h5, h6⟩ := hstay W' base' sp' held'
  refine ⟨m + 1, ?_⟩
  rw [hcells, h5, h6]
end
end Go.Proofs.YtodkhgofmgaafaaDoor.Av

namespace Go.Proofs.YtodkhgofmgaafaaDoor.Av
open Go Go.ChangeShapes Go.WideShapes
set_option linter.all false
set_option maxRecDepth 3000

/-! slices of bytes that came in, and are only read -/

section
variable {H : Type} {enc : TypeId × Value → H} {P : Program}

theorem shape_cells {w : World} {b row cells : Nat} (h : w.shape? b = some (row, cells)) : ∃ C t fr, w.heap[b]? = some (.cells C t fr) := by
  unfold World.shape? at h
  split at h
  · rename_i C t fr hC
    exact ⟨C, t, fr, hC⟩
  · cases h

/-- what a slice of bytes gives a walk: its bytes; a place from which it is read; it reads the same wherever its block is as it was -/
theorem open_slice {t e : TypeId} (ht : P.underlying t = some (.slice e)) (he : P.underlying e = some (.int .u8)) (hc : P.cellsOf e = 1) {r : Reach} {b0 : Nat} {W : World} {v : Value} {d : DataW H} {ps : List MemPlace}
    (hval : Value.okWide P W r b0 t v) (hd : DataW.Trod enc P W 0 (fun _ => true) true t v d ps) :
    (v = .slice none 0 0 ∧ ps = [] ∧ ∀ (W' : World) (sp : Nat → Bool), DataW.Trod enc P W' 0 sp true t v d []) ∨
    ∃ (l : List (BitVec 8)) (L : Loc) (cap : Nat), l.length ≤ cap ∧ cap < 9223372036854775808 ∧ SatE (fun _ => none) ⟨.row .cell, .u8s l, false⟩ L W ∧
      (∀ (ρ : Env) (i : Nat), ρ i = some L → Rep ρ (.slice i [] 0 l.length (some cap)) v) ∧
      (∀ (W' : World) (sp : Nat → Bool), (∀ b, b < W.heap.size → W'.heap[b]? = W.heap[b]?) → (∀ p ∈ ps, sp p.block = true) → DataW.Trod enc P W' 0 sp true t v d ps) ∧ ∃ es sp, d = .slice es sp ∧ es.length = l.length := by
  obtain ⟨fuel, hf⟩ := hd
  have hval' : Cell.okWide P W r b0 t v := by
    simp only [Value.okWide, ht] at hval; exact hval
  rcases open_ints ht he hc hf with ⟨hcs, hx⟩ | ⟨a, len, cap, zs, hcs, _, hl, hm, hz, hx, hcell, hwz⟩
  · left
    have hv : v = .slice none 0 0 := by
      cases v <;> simp_all [Value.cells]
      simp only [Cell.okWide, ht, Cell.ok] at hval'
    subst hv
    cases hx
    refine ⟨rfl, rfl, fun W' sp => ⟨1, ?_⟩⟩
    simp [DataW.trod, ht, Value.cells]
  right
  have hv : v = .slice (some a) len cap := by
    cases v <;> simp_all [Value.cells]
    simp only [Cell.okWide, ht, Cell.ok] at hval'
  subst hv
  cases hx
  simp only [if_true] at hz
  simp only [Cell.okWide, ht, Cell.ok] at hval'
  obtain ⟨_, _, _, hspot, row, cells, hsh, _⟩ := hval'
  obtain ⟨C, T, fr, hC⟩ := shape_cells hsh
  obtain ⟨ab, ao, spot⟩ := a
  have hspot : spot = none := hspot
  subst hspot
  have hC : W.heap[ab]? = some (.cells C T fr) := hC
  have hcell' : ∀ i, i < cap → C[ao + i]? = some (.int .u8 (zs.getD i 0)) := by
    intro i hi
    have := hcell i (by omega)
    rw [Addr.add_lit] at this
    simpa [World.cell?, hC] using this
  have hbd : 0 < cap → ao + cap ≤ C.size := by
    intro h0
    have := hcell' (cap - 1) (by omega)
    rcases Nat.lt_or_ge (ao + (cap - 1)) C.size with h | h
    · omega
    · rw [Array.getElem?_eq_none h] at this; cases this
  let l : List (BitVec 8) := (zs.take len).map fun n => BitVec.ofNat 8 n.toNat
  have hll : l.length = len := by simp [l]; omega
  let base : Nat := if cap = 0 then 0 else ao
  have hbase : base + len ≤ C.size := by
    by_cases h : cap = 0
    · simp only [base, if_pos h]; omega
    · simp only [base, if_neg h]
      have := hbd (by omega)
      omega
  have hreads : ∀ i, i < len → C[base + i]? = some (.int .u8 (zs.getD i 0)) := by
    intro i hi
    have h : ¬ cap = 0 := by omega
    simp only [base, if_neg h]
    exact hcell' i (by omega)
  refine ⟨l, ⟨ab, base, C.size, .row .cell⟩, cap, by omega, ?_, ⟨rfl, trivial, trivial, C, T, fr, C.toList.take base, (C.toList.drop base).take len, C.toList.drop (base + len), hC, list_win C.toList base len, ?_, rfl, ?_, fun h => by cases h⟩, fun ρ i hρ => ?_, fun W' sp hW hsp => ?_, _, _, rfl, by simp only [lits, List.length_map, List.length_take, hll]; omega⟩
  · unfold maxLen at hm; omega
  · rw [List.length_take, Array.length_toList]
    show min base C.size = base
    omega
  · show All2 _ (l.map D.u8) _
    have key : ∀ (n : Nat) (zs : List Int) (cs : List Value), n ≤ zs.length → (∀ z ∈ zs, (Lit.int .u8 z).wf = true) → (∀ i, i < n → cs[i]? = some (.int .u8 (zs.getD i 0))) → cs.length = n →
        All2 (RepS (fun _ => none)) (((zs.take n).map fun n => BitVec.ofNat 8 n.toNat).map D.u8) cs := by
      intro n
      induction n with
      | zero =>
        intro zs cs _ _ _ hlen
        have : cs = [] := List.eq_nil_of_length_eq_zero hlen
        subst this
        exact trivial
      | succ n ih =>
        intro zs cs hn hw hcs hlen
        match zs, cs, hn, hlen with
        | z :: zs, c :: cs, hn, hlen =>
          have h0 := hcs 0 (by omega)
          simp at h0
          subst h0
          refine ⟨rep_u8 (ρ := fun _ => none) (hw z (by simp)), ih zs cs (by simpa using hn) (fun x hx => hw x (List.mem_cons_of_mem _ hx)) (fun i hi => ?_) (by simpa using hlen)⟩
          simpa using hcs (i + 1) (by omega)
    refine key len zs _ (by omega) hwz (fun i hi => ?_) ?_
    · rw [List.getElem?_take, if_pos hi, List.getElem?_drop, Array.getElem?_toList]
      exact hreads i hi
    · rw [List.length_take, List.length_drop, Array.length_toList]; omega
  · refine ⟨_, hρ, .row .cell, .cell, ⟨ab, ao, none⟩, cap, rfl, rfl, by rw [hll], by omega, by unfold maxLen at hm; omega, fun k hk => by cases hk; rfl, fun h0 => ?_⟩
    have h : ¬ cap = 0 := by omega
    have := hbd h0
    simp only [base, if_neg h, offAt, Ty.size]
    exact ⟨by simp, by omega⟩
  · refine ⟨2, ?_⟩
    have hcells : (Value.slice (some ⟨ab, ao, none⟩) len cap).cells.toList = [.slice (some ⟨ab, ao, none⟩) len cap] := by simp [Value.cells]
    rw [hcells]
    have hab : ab < W.heap.size := by
      rcases Nat.lt_or_ge ab W.heap.size with h | h
      · exact h
      · rw [Array.getElem?_eq_none h] at hC; cases hC
    refine shut_ints' 0 ht he hc (Nat.zero_le _) hl hm ?_ (fun i hi => ?_) hwz
    · rw [hz]
      by_cases h : cap = 0
      · split <;> omega
      · have : sp ab = true := hsp (.cell ab ao) (MemPlace.mem_row.2 ⟨0, by omega, rfl⟩)
        rw [if_pos this]
    · have := hcell' i (by omega)
      simp only [World.cell?, hW ab hab, hC]
      simpa using this
end

section
variable {H : Type} {enc : TypeId × Value → H} {P : Program}

/-- an array of bytes among cells: its bytes; it reads so anywhere -/
theorem trod_u8s {t e : TypeId} {n : Nat} (ht : P.underlying t = some (.array n e)) (he : P.underlying e = some (.int .u8)) (hc : P.cellsOf e = 1) (hs : P.cellsOf t = n) {base : Nat} {W : World} {cs : List Value} {y : DataW H × List MemPlace}
    {sp : Nat → Bool} {held : Bool} {fuel : Nat} (hf : DataW.trod enc P W base sp held fuel t cs = some y) :
    y.2 = [] ∧ (∃ l : List (BitVec 8), l.length = n ∧ ∀ ρ, All2 (RepS ρ) (l.map D.u8) cs) ∧ ∀ (W' : World) (base' : Nat) (sp' : Nat → Bool) (held' : Bool), DataW.trod enc P W' base' sp' held' fuel t cs = some y := by
  obtain ⟨ys, m, rfl, hx, hl, hys, hi⟩ := DataW.trod_array ht hf
  have hget : ∀ i, i < n → ∃ a, cs[i]? = some (.int .u8 a) ∧ (Lit.int .u8 a).wf = true := by
    intro i hin
    have h := hi i hin
    rw [List.getElem?_eq_getElem (by omega)] at h
    obtain ⟨a, h1, _, h2⟩ := DataW.trod_int he h
    rw [hc, Nat.mul_one] at h1
    refine ⟨a, ?_, h2⟩
    have := congrArg (·[0]?) h1
    simpa [List.getElem?_take, List.getElem?_drop] using this
  have hlen : cs.length = n := by rw [hl, hs]
  have key : ∀ (cs : List Value), (∀ i, i < cs.length → ∃ a, cs[i]? = some (.int .u8 a) ∧ (Lit.int .u8 a).wf = true) → ∃ l : List (BitVec 8), l.length = cs.length ∧ ∀ ρ, All2 (RepS ρ) (l.map D.u8) cs := by
    intro cs
    induction cs with
    | nil => intro _; exact ⟨[], rfl, fun _ => trivial⟩
    | cons c cs ih =>
      intro h
      obtain ⟨a, h1, h2⟩ := h 0 (by simp)
      simp at h1; subst h1
      obtain ⟨l, h3, h4⟩ := ih (fun i hi => by simpa using h (i + 1) (by simpa using hi))
      exact ⟨BitVec.ofNat 8 a.toNat :: l, by simp [h3], fun ρ => ⟨rep_u8 (ρ := ρ) h2, h4 ρ⟩⟩
  obtain ⟨l, h1, h2⟩ := key cs (by rw [hlen]; exact hget)
  have hstay : ∀ (W' : World) (base' : Nat) (sp' : Nat → Bool) (held' : Bool), DataW.trod enc P W' base' sp' held' (m + 1) t cs = some y ∧ y.2 = [] := by
    intro W' base' sp' held'
    unfold DataW.trod at hf ⊢
    rw [ht] at hf ⊢
    simp only [hl, if_true, Option.map_eq_some_iff] at hf ⊢
    obtain ⟨zs, hz, hzx⟩ := hf
    obtain ⟨h3, h4⟩ := mapM_none (g := fun i => DataW.trod enc P W' base' sp' held' m e ((cs.drop (i * P.cellsOf e)).take (P.cellsOf e))) hz (fun i y _ hy => by
      obtain ⟨a, e1, e2, e3⟩ := DataW.trod_int he hy
      rw [e2]
      refine ⟨rfl, ?_⟩
      rw [e1]
      cases m with
      | zero => simp [DataW.trod] at hy
      | succ m => simp [DataW.trod, he, e3])
    refine ⟨⟨zs, h3, hzx⟩, ?_⟩
    rw [← hzx]; exact h4
  exact ⟨(hstay W 0 sp held).2, ⟨l, by rw [h1, hlen], h2⟩, fun W' base' sp' held' => (hstay W' base' sp' held').1⟩

/-- two arrays of bytes by value -/
theorem open_pair {t t' e : TypeId} {n : Nat} (ht : P.underlying t = some (.array 2 t')) (ht' : P.underlying t' = some (.array n e)) (he : P.underlying e = some (.int .u8)) (hc : P.cellsOf e = 1) (hs' : P.cellsOf t' = n) (hs : P.cellsOf t = n + n) {r : Reach} {b0 base : Nat} {W : World} {v : Value} {d : DataW H} {ps : List MemPlace}
    {sp : Nat → Bool} {held : Bool} (hval : Value.okWide P W r b0 t v) (hd : DataW.Trod enc P W base sp held t v d ps) :
    ∃ a b : List (BitVec 8), a.length = n ∧ b.length = n ∧ ps = [] ∧ (∀ ρ, Rep ρ (.node [.u8s a, .u8s b]) v) ∧ ∀ (W' : World) (base' : Nat) (sp' : Nat → Bool) (held' : Bool), DataW.Trod enc P W' base' sp' held' t v d [] := by
  simp only [Value.okWide, ht] at hval
  obtain ⟨xs, rfl, hn, _⟩ := hval
  obtain ⟨fuel, hf⟩ := hd
  have hcells : (Value.agg xs).cells.toList = xs.toList := by simp [Value.cells]
  rw [hcells] at hf
  obtain ⟨ys, m, rfl, hx, hl, hys, hi⟩ := DataW.trod_array ht hf
  obtain ⟨y0, y1, rfl⟩ : ∃ y0 y1, ys = [y0, y1] := by
    match ys, hys with
    | [y0, y1], _ => exact ⟨y0, y1, rfl⟩
  have i0 := hi 0 (by omega)
  have i1 := hi 1 (by omega)
  rw [hs'] at i0 i1
  simp only [Nat.zero_mul, List.drop_zero, Nat.one_mul] at i0 i1
  obtain ⟨p0, ⟨a, ha, hra⟩, st0⟩ := trod_u8s ht' he hc hs' (show DataW.trod enc P W base sp held m t' (xs.toList.take n) = some y0 from i0)
  obtain ⟨p1, ⟨b, hb, hrb⟩, st1⟩ := trod_u8s ht' he hc hs' (show DataW.trod enc P W base sp held m t' ((xs.toList.drop n).take n) = some y1 from i1)
  have hsz : xs.toList.length = n + n := by rw [hl, hs]
  have hsplit : xs.toList = xs.toList.take n ++ (xs.toList.drop n).take n := by
    rw [List.take_of_length_le (l := xs.toList.drop n) (by rw [List.length_drop]; omega), List.take_append_drop]
  have hstay : ∀ (W' : World) (base' : Nat) (sp' : Nat → Bool) (held' : Bool), DataW.trod enc P W' base' sp' held' (m + 1) t xs.toList = some (d, ps) ∧ ps = [] := by
    intro W' base' sp' held'
    unfold DataW.trod at hf ⊢
    rw [ht] at hf ⊢
    simp only [hl, if_true, Option.map_eq_some_iff] at hf ⊢
    obtain ⟨zs, hz, hzx⟩ := hf
    obtain ⟨h3, h4⟩ := mapM_none (g := fun i => DataW.trod enc P W' base' sp' held' m t' ((xs.toList.drop (i * P.cellsOf t')).take (P.cellsOf t'))) hz (fun i y _ hy => by
      obtain ⟨e1, _, e2⟩ := trod_u8s ht' he hc hs' hy
      exact ⟨e1, e2 W' base' sp' held'⟩)
    refine ⟨⟨zs, h3, hzx⟩, ?_⟩
    have := congrArg Prod.snd hzx
    exact this.symm.trans h4
  refine ⟨a, b, ha, hb, (hstay W 0 sp held).2, fun ρ => ⟨xs.toList, by simp, ?_⟩, fun W' base' sp' held' => ?_⟩
  · show All2 (RepS ρ) (a.map D.u8 ++ (b.map D.u8 ++ [])) _
    rw [hsplit, List.append_nil]
    exact (hra ρ).append (hrb ρ)
  · obtain ⟨h5, h6⟩ := hstay W' base' sp' held'
    refine ⟨m + 1, ?_⟩
    rw [hcells, h5, h6]

theorem rep_u64 {ρ : Env} {n : Int} (h : (Lit.int .u64 n).wf = true) : Rep ρ (.u64 (BitVec.ofNat 64 n.toNat)) (.int .u64 n) := by
  simp only [Lit.wf, Bool.and_eq_true, decide_eq_true_eq] at h
  have h1 : (0 : Int) ≤ n := h.1
  have h2 : n < 18446744073709551616 := by
    have := h.2
    have e : IntKind.u64.max = 18446744073709551615 := by decide
    omega
  show Value.int _ _ = .int _ _
  congr 1
  simp; omega

/-- the call of a law that reads a slice of bytes -/
theorem calls_bool_s {f : Nat} {args : List D} {T : Ty} {d : D} (h : AC P f args 1 [(0, some ⟨T, d, false⟩)] ⟨.bool true, [], []⟩) {W : World} {vals : List Value} {L : Loc} (hv : All2 (Rep (fun i => if i = 0 then some L else none)) args vals)
    (hs : SatE (fun _ => none) ⟨T, d, false⟩ L W) :
    Calls P f vals.toArray W fun e W' => e = .returned (.bool true) ∧ W'.os = W.os ∧ W'.output = W.output ∧ W.heap.size ≤ W'.heap.size ∧ ∀ b, b < W.heap.size → W'.heap[b]? = W.heap[b]? := by
  let ρ0 : Env := fun i => if i = 0 then some L else none
  have hle : Env.le (fun _ => none) ρ0 := fun i L h => by cases h
  have hget : ∀ i e, get [(0, some ⟨T, d, false⟩)] i = some e → i = 0 ∧ e = ⟨T, d, false⟩ := fun i e h => by
    rw [get_cons] at h
    split at h
    · rename_i e1; cases h; exact ⟨e1.symm, rfl⟩
    · cases h
  refine (h.2 ρ0 W vals hv ⟨fun g' L' h' => ?_, fun i e hi => ?_, fun i j ei ej Li Lj hi hj hne hr => ?_, fun i e L' hi hr => ?_, fun _ _ _ => rfl, Nat.le_refl _, rfl, rfl, rfl⟩ (fun i hi => ?_)).mono fun e W' ⟨v, ρ', he, _, _, hr, hI⟩ => ?_
  · have h' : (if gid g' = 0 then some L else none) = some L' := h'
    rw [if_neg (by unfold gid; omega)] at h'
    cases h'
  · obtain ⟨rfl, rfl⟩ := hget i e hi
    exact ⟨L, if_pos rfl, hs.mono hle⟩
  · obtain ⟨_, rfl⟩ := hget i ei hi
    cases hr
  · obtain ⟨_, rfl⟩ := hget i e hi
    cases hr
  · have hi : (if i = 0 then some L else none) ≠ none := hi
    split at hi
    · rename_i e1
      left; omega
    · exact absurd rfl hi
  · have hr : v = .bool true := hr
    subst hr
    refine ⟨he, hI.os, hI.out, hI.size, fun b hb => hI.ext b hb (fun ⟨i, e, L', h1, h2, _⟩ => ?_)⟩
    obtain ⟨_, rfl⟩ := hget i e h1
    cases h2
end

section
variable {H : Type} {enc : TypeId × Value → H} {P : Program}
theorem post_places {f : Func} {s : ChangeSpec} {apart fresh handsOn : Bool} {W W' : World} {args : Array Value} {v : Value} {ds gs : List (DataW H)} {before : List MemPlace}
    (hW : DataW.Whole enc P f.params.toList s.vars apart W args.toList ds gs before)
    (hres : ∀ (b : Nat) (sp : Nat → Bool) (hd : Bool), DataW.TrodAll enc P W' b sp hd f.resultTypes.toList (v.resultList f.resultTypes.size) (s.fn H (ds ++ gs)).results [])
    (hargs : ∀ sp : Nat → Bool, (∀ p ∈ before, sp p.block = true) → DataW.TrodAll enc P W' 0 sp true f.params.toList args.toList (s.fn H (ds ++ gs)).args before)
    (hvars : ∀ sp : Nat → Bool, DataW.TrodVars enc P W' sp s.vars (s.fn H (ds ++ gs)).vars [])
    (hk : W.keptBut W' (fun _ => False)) : s.post enc P f apart fresh handsOn false W args v W' :=
  ⟨ds, gs, before, [], before, [], hW, hres _ _ _, hargs _ (fun p hp => by simpa using hW.lt p hp), hvars _, World.keptBut_mono (fun _ h => h.elim) hk, (fun h => nomatch h)⟩
end
end Go.Proofs.YtodkhgofmgaafaaDoor.Av

namespace Go.Proofs.YtodkhgofmgaafaaDoor.Av
open Go Go.ChangeShapes Go.WideShapes
set_option linter.all false
set_option maxRecDepth 3000

/-! a law whose code reads some of the package's variables -/
theorem calls_bool_m {P : Program} {f : Nat} {args : List D} {m0 : Mem} (h : AC P f args 0 m0 ⟨.bool true, [], []⟩) {W : World} {vals : List Value} (hv : All2 (Rep (fun _ => none)) args vals)
    (hm : ∀ i e, get m0 i = some e → e.rw = false ∧ ∃ g, i = gid g ∧ ∃ L : Loc, (L.blk = g ∧ L.base = 0) ∧ SatE (fun _ => none) e L W) :
    Calls P f vals.toArray W fun e W' => e = .returned (.bool true) ∧ W'.os = W.os ∧ W'.output = W.output ∧ W.heap.size ≤ W'.heap.size ∧ ∀ b, b < W.heap.size → W'.heap[b]? = W.heap[b]? := by
  let ρ0 : Env := fun i => @dite _ (∃ e, get m0 i = some e) (Classical.propDecidable _) (fun hi => some (hm i hi.choose hi.choose_spec).2.choose_spec.2.choose) (fun _ => none)
  have hle : Env.le (fun _ => none) ρ0 := fun i L h => by cases h
  have hρ : ∀ i e, get m0 i = some e → ∃ g L, i = gid g ∧ ρ0 i = some L ∧ (L.blk = g ∧ L.base = 0) ∧ SatE (fun _ => none) e L W := fun i e hi => by
    have hx : ∃ e, get m0 i = some e := ⟨e, hi⟩
    have he : hx.choose = e := Option.some.inj (hx.choose_spec.symm.trans hi)
    have hs := (hm i hx.choose hx.choose_spec).2.choose_spec.2.choose_spec
    have hg := (hm i hx.choose hx.choose_spec).2.choose_spec.1
    refine ⟨_, _, hg, dif_pos hx, hs.1, ?_⟩
    have h2 := hs.2
    generalize (hm i hx.choose hx.choose_spec).2.choose_spec.2.choose = L at h2
    rw [he] at h2
    exact h2
  have hno : ∀ i L, ρ0 i = some L → ∃ e, get m0 i = some e := fun i L hi => by
    by_cases hx : ∃ e, get m0 i = some e
    · exact hx
    · have : ρ0 i = none := dif_neg hx
      rw [this] at hi; cases hi
  have hgi : ∀ {a b : Nat}, gid a = gid b → a = b := fun h => by unfold gid at h; omega
  refine (h.2 ρ0 W vals (hv.mono fun a b hab => Rep.mono hle hab)
    ⟨fun g L h' => ?_, fun i e hi => ?_, fun i j ei ej Li Lj hi hj hne hr => ?_, fun i e L' hi hr => ?_, fun _ _ _ => rfl, Nat.le_refl _, rfl, rfl, rfl⟩ (fun i hi => ?_)).mono fun e W' ⟨v, ρ', he, _, _, hr, hI⟩ => ?_
  · obtain ⟨e, he⟩ := hno _ _ h'
    obtain ⟨g', L', h1, h2, h3, _⟩ := hρ _ e he
    rw [h'] at h2; cases h2
    rw [hgi h1]; exact h3
  · obtain ⟨g', L', h1, h2, h3, h4⟩ := hρ i e hi
    exact ⟨L', h2, h4.mono hle⟩
  · rw [(hm i ei hi).1] at hr; cases hr
  · rw [(hm i e hi).1] at hr; cases hr
  · cases hL : ρ0 i with
    | none => exact absurd hL hi
    | some L =>
      obtain ⟨e, he⟩ := hno _ _ hL
      obtain ⟨g', L', h1, _⟩ := hρ _ e he
      right; rw [h1]; unfold gid; omega
  · have hr : v = .bool true := hr
    subst hr
    refine ⟨he, hI.os, hI.out, hI.size, fun b hb => hI.ext b hb (fun ⟨i, e, L', h1, h2, _⟩ => ?_)⟩
    rw [(hm i e h1).1] at h2; cases h2

/-- a variable that is an array of words, as its reading says -/
theorem sat_u32s {P : Program} {W : World} {name : String} {g t e n : Nat} (hg : P.globalNamed name = some g) (hty : (P.globals[g]?).map (·.type) = some t) (ht : P.underlying t = some (.array n e)) (he : P.underlying e = some (.int .u32))
    (hc : P.cellsOf e = 1) (hs : P.cellsOf t = n) {l : List (BitVec 32)} (hl : l.length = n) (h : Lib.VarReads P W name (.agg (l.map fun b => .lit (.int .u32 b.toNat)))) :
    SatE (fun _ => none) ⟨.arr n .cell, .u32s l, false⟩ ⟨g, 0, n, .arr n .cell⟩ W := by
  obtain ⟨g', t', cs, fuel, p, q1, q2, q3, q4⟩ := h
  obtain rfl := Option.some.inj (hg.symm.trans q1)
  obtain rfl := Option.some.inj (hty.symm.trans q2)
  have hcs : cs.toList = (l.map fun b => (b.toNat : Int)).map fun z => Value.int .u32 z := by
    have q5 : DataW.trod (fun _ => ()) P W 0 (fun _ => true) false fuel t cs.toList = some (Lib.tabData .u32 (l.map fun b => (b.toNat : Int)), p) := by
      rw [q4]; unfold Lib.tabData; rw [List.map_map]; rfl
    exact Lib.cells_of_tab ht he hc hs q5
  simp only [World.var?, hg, Option.bind_some] at q3
  split at q3 <;> try contradiction
  rename_i C T fr hC
  cases q3
  have hlen : cs.size = n := by
    have := congrArg List.length hcs
    simpa [hl] using this
  refine ⟨rfl, trivial, hl, cs, T, fr, [], cs.toList, [], hC, by simp, rfl, hlen, ?_, fun h => by cases h⟩
  rw [hcs, List.map_map]
  show All2 _ (l.map D.u32) _
  have : ∀ l : List (BitVec 32), All2 (RepS (fun _ => none)) (l.map D.u32) (l.map ((fun z => Value.int .u32 z) ∘ fun b => (b.toNat : Int))) := by
    intro l
    induction l with
    | nil => trivial
    | cons a r ih => exact ⟨rfl, ih⟩
  exact this l

section
variable {H : Type} {enc : TypeId × Value → H} {P : Program}
/-- three arrays of bytes -/
theorem open_triple {t t' e : TypeId} {n : Nat} (ht : P.underlying t = some (.array 3 t')) (ht' : P.underlying t' = some (.array n e)) (he : P.underlying e = some (.int .u8)) (hc : P.cellsOf e = 1) (hs' : P.cellsOf t' = n) (hs : P.cellsOf t = n + n + n) {r : Reach} {b0 base : Nat} {W : World} {v : Value} {d : DataW H} {ps : List MemPlace}
    {sp : Nat → Bool} {held : Bool} (hval : Value.okWide P W r b0 t v) (hd : DataW.Trod enc P W base sp held t v d ps) :
    ∃ a b c : List (BitVec 8), a.length = n ∧ b.length = n ∧ c.length = n ∧ ps = [] ∧ (∀ ρ, Rep ρ (.node [.u8s a, .u8s b, .u8s c]) v) ∧ ∀ (W' : World) (base' : Nat) (sp' : Nat → Bool) (held' : Bool), DataW.Trod enc P W' base' sp' held' t v d [] := by
  simp only [Value.okWide, ht] at hval
  obtain ⟨xs, rfl, hn, _⟩ := hval
  obtain ⟨fuel, hf⟩ := hd
  have hcells : (Value.agg xs).cells.toList = xs.toList := by simp [Value.cells]
  rw [hcells] at hf
  obtain ⟨ys, m, rfl, hx, hl, hys, hi⟩ := DataW.trod_array ht hf
  obtain ⟨y0, y1, y2, rfl⟩ : ∃ y0 y1 y2, ys = [y0, y1, y2] := by
    match ys, hys with
    | [y0, y1, y2], _ => exact ⟨y0, y1, y2, rfl⟩
  have i0 := hi 0 (by omega)
  have i1 := hi 1 (by omega)
  have i2 := hi 2 (by omega)
  rw [hs'] at i0 i1 i2
  simp only [Nat.zero_mul, List.drop_zero, Nat.one_mul] at i0 i1 i2
  obtain ⟨p0, ⟨a, ha, hra⟩, st0⟩ := trod_u8s ht' he hc hs' (show DataW.trod enc P W base sp held m t' (xs.toList.take n) = some y0 from i0)
  obtain ⟨p1, ⟨b, hb, hrb⟩, st1⟩ := trod_u8s ht' he hc hs' (show DataW.trod enc P W base sp held m t' ((xs.toList.drop n).take n) = some y1 from i1)
  obtain ⟨p2, ⟨c, hcl, hrc⟩, st2⟩ := trod_u8s ht' he hc hs' (show DataW.trod enc P W base sp held m t' ((xs.toList.drop (2 * n)).take n) = some y2 from i2)
  have hsz : xs.toList.length = n + n + n := by rw [hl, hs]
  have hsplit : xs.toList = xs.toList.take n ++ ((xs.toList.drop n).take n ++ (xs.toList.drop (2 * n)).take n) := by
    rw [List.take_of_length_le (l := xs.toList.drop (2 * n)) (by rw [List.length_drop]; omega), show 2 * n = n + n by omega, ← List.drop_drop, List.take_append_drop, List.take_append_drop]
  have hstay : ∀ (W' : World) (base' : Nat) (sp' : Nat → Bool) (held' : Bool), DataW.trod enc P W' base' sp' held' (m + 1) t xs.toList = some (d, ps) ∧ ps = [] := by
    intro W' base' sp' held'
    unfold DataW.trod at hf ⊢
    rw [ht] at hf ⊢
    simp only [hl, if_true, Option.map_eq_some_iff] at hf ⊢
    obtain ⟨zs, hz, hzx⟩ := hf
    obtain ⟨h3, h4⟩ := mapM_none (g := fun i => DataW.trod enc P W' base' sp' held' m t' ((xs.toList.drop (i * P.cellsOf t')).take (P.cellsOf t'))) hz (fun i y _ hy => by
      obtain ⟨e1, _, e2⟩ := trod_u8s ht' he hc hs' hy
      exact ⟨e1, e2 W' base' sp' held'⟩)
    refine ⟨⟨zs, h3, hzx⟩, ?_⟩
    have := congrArg Prod.snd hzx
    exact this.symm.trans h4
  refine ⟨a, b, c, ha, hb, hcl, (hstay W 0 sp held).2, fun ρ => ⟨xs.toList, by simp, ?_⟩, fun W' base' sp' held' => ?_⟩
  · show All2 (RepS ρ) (a.map D.u8 ++ (b.map D.u8 ++ (c.map D.u8 ++ []))) _
    rw [hsplit, List.append_nil]
    exact (hra ρ).append ((hrb ρ).append (hrc ρ))
  · obtain ⟨h5, h6⟩ := hstay W' base' sp' held'
    refine ⟨m + 1, ?_⟩
    rw [hcells, h5, h6]
end
end Go.Proofs.YtodkhgofmgaafaaDoor.Av

namespace Go.Proofs.YtodkhgofmgaafaaDoor.Av
open Go Go.ChangeShapes Go.WideShapes
set_option linter.all false
set_option maxRecDepth 3000

/-! plain data of any shape: its values, told by its type alone -/
def canEs (F : TypeId → D → Prop) : List TypeId → List D → Prop
  | [], [] => True
  | t :: ts, d :: ds => F t d ∧ canEs F ts ds
  | _, _ => False

def oddB (P : Program) (e : TypeId) : Nat := match P.underlying e with
  | some (.int .u8) => 1
  | some (.int .u32) => 2
  | some (.int .u64) => 2
  | _ => 0
theorem oddB_one {P : Program} {e : TypeId} (h : oddB P e = 1) : P.underlying e = some (.int .u8) := by
  unfold oddB at h
  split at h
  · assumption
  all_goals omega
def canE (P : Program) : Nat → TypeId → D → Prop
  | 0, _, _ => False
  | n + 1, t, x => match P.underlying t with
    | some .bool => ∃ b, x = .bool b
    | some (.int .u8) => ∃ b, x = .u8 b
    | some (.int .u16) => ∃ b, x = .u16 b
    | some (.int .u32) => ∃ b, x = .u32 b
    | some (.int .u64) => ∃ b, x = .u64 b
    | some (.int .i64) => ∃ b : Int, x = .i64 b ∧ -9223372036854775808 ≤ b ∧ b < 9223372036854775808
    | some (.array c e) => match oddB P e with
      | 1 => ∃ l, x = .u8s l ∧ l.length = c
      | _ => ∃ l, x = .node l ∧ l.length = c ∧ AllD (canE P n e) l
    | some (.struct fs) => ∃ l, x = .node l ∧ canEs (canE P n) (fs.toList.map (·.type)) l
    | _ => False

theorem rep_u16 {ρ : Env} {n : Int} (h : (Lit.int .u16 n).wf = true) : Rep ρ (.u16 (BitVec.ofNat 16 n.toNat)) (.int .u16 n) := by
  simp only [Lit.wf, Bool.and_eq_true, decide_eq_true_eq] at h
  have h1 : (0 : Int) ≤ n := h.1
  have h2 : n < 65536 := by
    have := h.2
    have e : IntKind.u16.max = 65535 := by decide
    omega
  show Value.int _ _ = .int _ _
  congr 1
  simp; omega
theorem rep_u32 {ρ : Env} {n : Int} (h : (Lit.int .u32 n).wf = true) : Rep ρ (.u32 (BitVec.ofNat 32 n.toNat)) (.int .u32 n) := by
  simp only [Lit.wf, Bool.and_eq_true, decide_eq_true_eq] at h
  have h1 : (0 : Int) ≤ n := h.1
  have h2 : n < 4294967296 := by
    have := h.2
    have e : IntKind.u32.max = 4294967295 := by decide
    omega
  show Value.int _ _ = .int _ _
  congr 1
  simp; omega
theorem rep_i64 {n : Int} (h : (Lit.int .i64 n).wf = true) : -9223372036854775808 ≤ n ∧ n < 9223372036854775808 := by
  simp only [Lit.wf, Bool.and_eq_true, decide_eq_true_eq] at h
  have h1 : IntKind.i64.min ≤ n := h.1
  have e1 : IntKind.i64.min = -9223372036854775808 := by decide
  have e : IntKind.i64.max = 9223372036854775807 := by decide
  have h2 : n ≤ IntKind.i64.max := h.2
  omega

/-- fields one behind the other, from o on -/
def inRow (P : Program) : List Field → Nat → Nat → Bool
  | [], o, e => o == e
  | f :: fs, o, e => f.offset == o && inRow P fs (o + P.cellsOf f.type) e

def flatT (P : Program) : Nat → TypeId → Bool
  | 0, _ => false
  | n + 1, t => match P.underlying t with
    | some .bool => true
    | some (.int .u8) => true
    | some (.int .u16) => true
    | some (.int .u32) => true
    | some (.int .u64) => true
    | some (.int .i64) => true
    | some (.array c e) => match oddB P e with
      | 0 => P.cellsOf t == c * P.cellsOf e && flatT P n e
      | 1 => P.cellsOf e == 1 && P.cellsOf t == c
      | _ => false
    | some (.struct fs) => inRow P fs.toList 0 (P.cellsOf t) && fs.toList.all (fun f => flatT P n f.type)
    | _ => false

section
variable {H : Type} {enc : TypeId × Value → H} {P : Program}

theorem mapM_rows {α : Type} (F : TypeId → D → Prop) (g g' : α → Option (DataW H × List MemPlace)) (ty : α → TypeId) (chunk : α → List Value) : ∀ (l : List α) (r : List (DataW H × List MemPlace)), l.mapM g = some r →
    (∀ a ∈ l, ∀ y, g a = some y → y.2 = [] ∧ g' a = some y ∧ ∃ d, F (ty a) d ∧ ∀ ρ, All2 (RepS ρ) d.flat (chunk a)) →
    l.mapM g' = some r ∧ r.flatMap (·.2) = [] ∧ ∃ ds : List D, ds.length = l.length ∧ canEs F (l.map ty) ds ∧ ∀ ρ, All2 (RepS ρ) (D.flats ds) (l.flatMap chunk)
  | [], r, h, _ => by
    simp at h; subst h
    exact ⟨rfl, rfl, [], rfl, trivial, fun _ => trivial⟩
  | a :: l, r, h, hg => by
    rw [List.mapM_cons] at h ⊢
    simp only [bind, Option.bind_eq_some_iff, pure, Option.some.injEq] at h
    obtain ⟨y, hy, ys, hys, rfl⟩ := h
    obtain ⟨h1, h2, d, h3, h4⟩ := hg a (by simp) y hy
    obtain ⟨k1, k2, ds, k3, k4, k5⟩ := mapM_rows F g g' ty chunk l ys hys (fun b hb => hg b (by simp [hb]))
    rw [h2, k1]
    refine ⟨rfl, by rw [List.flatMap_cons, h1, k2]; rfl, d :: ds, by simp [k3], ⟨h3, k4⟩, fun ρ => ?_⟩
    rw [List.flatMap_cons]
    exact (h4 ρ).append (k5 ρ)

theorem inRow_cells (cs : List Value) : ∀ (fs : List Field) (o e : Nat), inRow P fs o e = true → e = cs.length → fs.flatMap (fun f => (cs.drop f.offset).take (P.cellsOf f.type)) = cs.drop o
  | [], o, e, h, he => by
    simp only [inRow, beq_iff_eq] at h
    rw [h, he, List.drop_length]; rfl
  | f :: fs, o, e, h, he => by
    simp only [inRow, Bool.and_eq_true, beq_iff_eq] at h
    rw [List.flatMap_cons, inRow_cells cs fs _ e h.2 he, h.1, ← List.drop_drop, List.take_append_drop]

theorem canEs_rep (F : TypeId → D → Prop) (e : TypeId) : ∀ (n : Nat) (ds : List D), canEs F (List.replicate n e) ds → ds.length = n ∧ AllD (F e) ds
  | 0, [], _ => ⟨rfl, trivial⟩
  | n + 1, d :: ds, h => by
    obtain ⟨h1, h2⟩ := canEs_rep F e n ds h.2
    exact ⟨by simp [h1], h.1, h2⟩
  | 0, _ :: _, h => h.elim
  | n + 1, [], h => h.elim

theorem range_chunks {α : Type} (c : Nat) : ∀ (n : Nat) (cs : List α), cs.length = n * c → (List.range n).flatMap (fun i => (cs.drop (i * c)).take c) = cs
  | 0, cs, h => by
    have : cs = [] := List.length_eq_zero_iff.1 (by omega)
    rw [this]; rfl
  | n + 1, cs, h => by
    rw [List.range_succ_eq_map, List.flatMap_cons, List.flatMap_map]
    have e := range_chunks c n (cs.drop c) (by rw [List.length_drop, h, Nat.add_mul]; omega)
    have : (fun i => ((cs.drop c).drop (i * c)).take c) = (fun i => (cs.drop ((i + 1) * c)).take c) := by
      funext i
      rw [List.drop_drop]
      congr 2
      rw [Nat.add_mul]; omega
    rw [this] at e
    rw [Nat.zero_mul, List.drop_zero, e, List.take_append_drop]

theorem trod_flat : ∀ (n : Nat) {t : TypeId} (_ : flatT P n t = true) {W : World} {base fuel : Nat} {sp : Nat → Bool} {held : Bool} {cs : List Value} {y : DataW H × List MemPlace}, DataW.trod enc P W base sp held fuel t cs = some y →
    y.2 = [] ∧ (∃ d, canE P n t d ∧ ∀ ρ, All2 (RepS ρ) d.flat cs) ∧ ∀ (W' : World) (base' : Nat) (sp' : Nat → Bool) (held' : Bool), DataW.trod enc P W' base' sp' held' fuel t cs = some y := by
  intro n
  induction n with
  | zero => intro t h; cases h
  | succ n ih =>
    intro t h W base fuel sp held cs y hd
    cases hu : P.underlying t with
    | none => simp [flatT, hu] at h
    | some T =>
      have int : ∀ {k : IntKind} (_ : T = .int k) (_ : ∀ z, (Lit.int k z).wf = true → ∃ d, canE P (n + 1) t d ∧ ∀ ρ, All2 (RepS ρ) d.flat [.int k z]),
          y.2 = [] ∧ (∃ d, canE P (n + 1) t d ∧ ∀ ρ, All2 (RepS ρ) d.flat cs) ∧ ∀ (W' : World) (base' : Nat) (sp' : Nat → Bool) (held' : Bool), DataW.trod enc P W' base' sp' held' fuel t cs = some y := by
        intro k hT h1
        subst hT
        obtain ⟨a, rfl, rfl, e3⟩ := DataW.trod_int hu hd
        refine ⟨rfl, h1 a e3, fun W' base' sp' held' => ?_⟩
        cases fuel with
        | zero => simp [DataW.trod] at hd
        | succ m => simp [DataW.trod, hu, e3]
      cases T with
      | bool =>
        obtain ⟨b, rfl, rfl⟩ := DataW.trod_bool hu hd
        refine ⟨rfl, ⟨.bool b, by simp only [canE, hu]; exact ⟨b, rfl⟩, fun ρ => ⟨rfl, trivial⟩⟩, fun W' base' sp' held' => ?_⟩
        cases fuel with
        | zero => simp [DataW.trod] at hd
        | succ m => simp [DataW.trod, hu]
      | int k =>
        cases k with
        | u8 => exact int rfl fun z hz => ⟨.u8 (BitVec.ofNat 8 z.toNat), by simp only [canE, hu]; exact ⟨_, rfl⟩, fun ρ => ⟨rep_u8 (ρ := ρ) hz, trivial⟩⟩
        | u16 => exact int rfl fun z hz => ⟨.u16 (BitVec.ofNat 16 z.toNat), by simp only [canE, hu]; exact ⟨_, rfl⟩, fun ρ => ⟨rep_u16 (ρ := ρ) hz, trivial⟩⟩
        | u32 => exact int rfl fun z hz => ⟨.u32 (BitVec.ofNat 32 z.toNat), by simp only [canE, hu]; exact ⟨_, rfl⟩, fun ρ => ⟨rep_u32 (ρ := ρ) hz, trivial⟩⟩
        | u64 => exact int rfl fun z hz => ⟨.u64 (BitVec.ofNat 64 z.toNat), by simp only [canE, hu]; exact ⟨_, rfl⟩, fun ρ => ⟨rep_u64 (ρ := ρ) hz, trivial⟩⟩
        | i64 => exact int rfl fun z hz => ⟨.i64 z, by simp only [canE, hu]; exact ⟨_, rfl, (rep_i64 hz).1, (rep_i64 hz).2⟩, fun ρ => ⟨(show Value.int .i64 z = .int .i64 z ∧ _ from ⟨rfl, rep_i64 hz⟩), trivial⟩⟩
        | _ => simp [flatT, hu] at h
      | array c e =>
        by_cases he : oddB P e = 1
        · simp only [flatT, hu, he, Bool.and_eq_true, beq_iff_eq] at h
          obtain ⟨h1, ⟨l, h2, h3⟩, h4⟩ := trod_u8s hu (oddB_one he) h.1 h.2 hd
          exact ⟨h1, ⟨.u8s l, by simp only [canE, hu, he]; exact ⟨l, rfl, h2⟩, h3⟩, h4⟩
        · have he0 : oddB P e = 0 := by
            simp only [flatT, hu] at h
            split at h
            · assumption
            · contradiction
            · cases h
          simp only [flatT, hu, he0, Bool.and_eq_true, beq_iff_eq] at h
          cases fuel with
          | zero => simp [DataW.trod] at hd
          | succ m =>
            have hd0 := hd
            unfold DataW.trod at hd
            rw [hu] at hd
            simp only at hd
            split at hd
            rotate_left
            · cases hd
            rename_i hlen
            rw [Option.map_eq_some_iff] at hd
            obtain ⟨xs, hx, rfl⟩ := hd
            have hs : cs.length = c * P.cellsOf e := by rw [hlen, h.1]
            obtain ⟨_, k2, ds, k3, k4, k5⟩ := mapM_rows (canE P n) _ (fun i => DataW.trod enc P W base sp held m e ((cs.drop (i * P.cellsOf e)).take (P.cellsOf e))) (fun _ => e) (fun i => (cs.drop (i * P.cellsOf e)).take (P.cellsOf e)) _ _ hx (fun i _ z hz => by
              obtain ⟨h1, h2, h3⟩ := ih h.2 hz
              exact ⟨h1, hz, h2⟩)
            rw [List.map_const', List.length_range] at k4
            obtain ⟨k6, k7⟩ := canEs_rep (canE P n) e c ds k4
            refine ⟨k2, ⟨.node ds, ?_, fun ρ => ?_⟩, fun W' base' sp' held' => ?_⟩
            · simp only [canE, hu, he0]
              exact ⟨ds, rfl, k6, k7⟩
            · have := k5 ρ
              rw [range_chunks _ _ cs hs] at this
              exact this
            · obtain ⟨j1, _⟩ := mapM_rows (canE P n) _ (fun i => DataW.trod enc P W' base' sp' held' m e ((cs.drop (i * P.cellsOf e)).take (P.cellsOf e))) (fun _ => e) (fun i => (cs.drop (i * P.cellsOf e)).take (P.cellsOf e)) _ _ hx (fun i _ z hz => by
                obtain ⟨h1, h2, h3⟩ := ih h.2 hz
                exact ⟨h1, h3 W' base' sp' held', h2⟩)
              unfold DataW.trod
              rw [hu]
              simp only
              rw [if_pos hlen, j1]
              rfl
      | struct fs =>
        simp only [flatT, hu, Bool.and_eq_true, List.all_eq_true] at h
        cases fuel with
        | zero => simp [DataW.trod] at hd
        | succ m =>
          have hd0 := hd
          unfold DataW.trod at hd
          rw [hu] at hd
          simp only at hd
          split at hd
          rotate_left
          · cases hd
          rename_i hlen
          rw [Option.map_eq_some_iff] at hd
          obtain ⟨xs, hx, rfl⟩ := hd
          obtain ⟨_, k2, ds, k3, k4, k5⟩ := mapM_rows (canE P n) _ (fun f => DataW.trod enc P W base sp held m f.type ((cs.drop f.offset).take (P.cellsOf f.type))) (fun f => f.type) (fun f => (cs.drop f.offset).take (P.cellsOf f.type)) _ _ hx (fun f hf z hz => by
            obtain ⟨h1, h2, h3⟩ := ih (h.2 f hf) hz
            exact ⟨h1, hz, h2⟩)
          refine ⟨k2, ⟨.node ds, ?_, fun ρ => ?_⟩, fun W' base' sp' held' => ?_⟩
          · unfold canE
            rw [hu]
            exact ⟨ds, rfl, k4⟩
          · have := k5 ρ
            rw [inRow_cells cs fs.toList 0 _ h.1 hlen.symm] at this
            exact this
          · obtain ⟨j1, _⟩ := mapM_rows (canE P n) _ (fun f => DataW.trod enc P W' base' sp' held' m f.type ((cs.drop f.offset).take (P.cellsOf f.type))) (fun f => f.type) (fun f => (cs.drop f.offset).take (P.cellsOf f.type)) _ _ hx (fun f hf z hz => by
              obtain ⟨h1, h2, h3⟩ := ih (h.2 f hf) hz
              exact ⟨h1, h3 W' base' sp' held', h2⟩)
            unfold DataW.trod
            rw [hu]
            simp only
            rw [if_pos hlen, j1]
            rfl
      | _ => simp [flatT, hu] at h

/-- plain data by value: what it holds; it reads so anywhere -/
theorem open_flat (n : Nat) {t : TypeId} (ht : flatT P n t = true) {r : Reach} {b0 base : Nat} {W : World} {v : Value} {d : DataW H} {ps : List MemPlace} {sp : Nat → Bool} {held : Bool} (hval : Value.okWide P W r b0 t v)
    (hagg : (match P.underlying t with | some (.array _ _) => true | some (.struct _) => true | _ => false) = true) (hd : DataW.Trod enc P W base sp held t v d ps) :
    ∃ x, canE P n t x ∧ ps = [] ∧ (∀ ρ, All2 (RepS ρ) x.flat v.cells.toList ∧ ∃ xs, v = .agg xs) ∧ ∀ (W' : World) (base' : Nat) (sp' : Nat → Bool) (held' : Bool), DataW.Trod enc P W' base' sp' held' t v d [] := by
  obtain ⟨fuel, hf⟩ := hd
  obtain ⟨h1, ⟨x, h2, h3⟩, h4⟩ := trod_flat n ht hf
  have hps : ps = [] := h1
  subst hps
  have : ∃ xs, v = .agg xs := by
    cases hu : P.underlying t with
    | none => simp [hu] at hagg
    | some T =>
      cases T <;> simp [hu] at hagg
      all_goals
        simp only [Value.okWide, hu] at hval
        obtain ⟨xs, rfl, _⟩ := hval
        exact ⟨xs, rfl⟩
  exact ⟨x, h2, rfl, fun ρ => ⟨h3 ρ, this⟩, fun W' base' sp' held' => ⟨fuel, h4 W' base' sp' held'⟩⟩
end
end Go.Proofs.YtodkhgofmgaafaaDoor.Av

namespace Go.Proofs.YtodkhgofmgaafaaDoor.Av
open Go Go.ChangeShapes Go.WideShapes
set_option linter.all false
set_option maxRecDepth 3000

/-! a law that reads a row of bytes, and some of the package's variables -/
theorem calls_bool_sm {P : Program} {f : Nat} {args : List D} {m0 : Mem} (h : AC P f args 1 m0 ⟨.bool true, [], []⟩) {W : World} {vals : List Value} {L0 : Loc} (hv : All2 (Rep (fun i => if i = 0 then some L0 else none)) args vals)
    (hm : ∀ i e, get m0 i = some e → e.rw = false ∧ ((i = 0 ∧ SatE (fun _ => none) e L0 W) ∨ ∃ g, i = gid g ∧ ∃ L : Loc, (L.blk = g ∧ L.base = 0) ∧ SatE (fun _ => none) e L W)) :
    Calls P f vals.toArray W fun e W' => e = .returned (.bool true) ∧ W'.os = W.os ∧ W'.output = W.output ∧ W.heap.size ≤ W'.heap.size ∧ ∀ b, b < W.heap.size → W'.heap[b]? = W.heap[b]? := by
  have hgi : ∀ {a b : Nat}, gid a = gid b → a = b := fun h => by unfold gid at h; omega
  have hg0 : ∀ g, gid g ≠ 0 := fun g => by unfold gid; omega
  have hm2 : ∀ i e, get m0 i = some e → i ≠ 0 → ∃ g, i = gid g ∧ ∃ L : Loc, (L.blk = g ∧ L.base = 0) ∧ SatE (fun _ => none) e L W := fun i e hi h0 => by
    rcases (hm i e hi).2 with ⟨h1, _⟩ | h1
    · exact absurd h1 h0
    · exact h1
  let ρ0 : Env := fun i => if h0 : i = 0 then some L0 else @dite _ (∃ e, get m0 i = some e) (Classical.propDecidable _) (fun hi => some (hm2 i hi.choose hi.choose_spec h0).choose_spec.2.choose) (fun _ => none)
  have hle : Env.le (fun _ => none) ρ0 := fun i L h => by cases h
  have hle0 : Env.le (fun i => if i = 0 then some L0 else none) ρ0 := fun i L h => by
    have h : (if i = 0 then some L0 else none) = some L := h
    split at h
    · rename_i h0
      show dite _ _ _ = _
      rw [dif_pos h0]; exact h
    · cases h
  have h00 : ρ0 0 = some L0 := dif_pos rfl
  have hρ : ∀ i e, get m0 i = some e → i ≠ 0 → ∃ g L, i = gid g ∧ ρ0 i = some L ∧ (L.blk = g ∧ L.base = 0) ∧ SatE (fun _ => none) e L W := fun i e hi h0 => by
    have hx : ∃ e, get m0 i = some e := ⟨e, hi⟩
    have he : hx.choose = e := Option.some.inj (hx.choose_spec.symm.trans hi)
    have hs := (hm2 i hx.choose hx.choose_spec h0).choose_spec.2.choose_spec
    have hg := (hm2 i hx.choose hx.choose_spec h0).choose_spec.1
    refine ⟨_, _, hg, (dif_neg h0).trans (dif_pos hx), hs.1, ?_⟩
    have h2 := hs.2
    generalize (hm2 i hx.choose hx.choose_spec h0).choose_spec.2.choose = L at h2
    rw [he] at h2
    exact h2
  have hno : ∀ i L, ρ0 i = some L → i ≠ 0 → ∃ e, get m0 i = some e := fun i L hi h0 => by
    by_cases hx : ∃ e, get m0 i = some e
    · exact hx
    · have : ρ0 i = none := (dif_neg h0).trans (dif_neg hx)
      rw [this] at hi; cases hi
  have hsat : ∀ i e, get m0 i = some e → ∃ L, ρ0 i = some L ∧ SatE ρ0 e L W := fun i e hi => by
    by_cases h0 : i = 0
    · subst h0
      rcases (hm 0 e hi).2 with ⟨_, h1⟩ | ⟨g, h1, _⟩
      · exact ⟨L0, h00, h1.mono hle⟩
      · exact absurd h1.symm (hg0 g)
    · obtain ⟨g', L', h1, h2, h3, h4⟩ := hρ i e hi h0
      exact ⟨L', h2, h4.mono hle⟩
  refine (h.2 ρ0 W vals (hv.mono fun a b hab => Rep.mono hle0 hab)
    ⟨fun g L h' => ?_, hsat, fun i j ei ej Li Lj hi hj hne hr => ?_, fun i e L' hi hr => ?_, fun _ _ _ => rfl, Nat.le_refl _, rfl, rfl, rfl⟩ (fun i hi => ?_)).mono fun e W' ⟨v, ρ', he, _, _, hr, hI⟩ => ?_
  · obtain ⟨e, he⟩ := hno _ _ h' (hg0 g)
    obtain ⟨g', L', h1, h2, h3, _⟩ := hρ _ e he (hg0 g)
    rw [h'] at h2; cases h2
    rw [hgi h1]; exact h3
  · rw [(hm i ei hi).1] at hr; cases hr
  · rw [(hm i e hi).1] at hr; cases hr
  · by_cases h0 : i = 0
    · left; omega
    · cases hL : ρ0 i with
      | none => exact absurd hL hi
      | some L =>
        obtain ⟨e, he⟩ := hno _ _ hL h0
        obtain ⟨g', L', h1, _⟩ := hρ _ e he h0
        right; rw [h1]; unfold gid; omega
  · have hr : v = .bool true := hr
    subst hr
    refine ⟨he, hI.os, hI.out, hI.size, fun b hb => hI.ext b hb (fun ⟨i, e, L', h1, h2, _⟩ => ?_)⟩
    rw [(hm i e h1).1] at h2; cases h2

/-- no bytes at all lie anywhere -/
theorem sat_none {e : Ent} {L : Loc} {W : World} (h : SatE (fun _ => none) e L W) : SatE (fun _ => none) ⟨.row .cell, .u8s [], false⟩ ⟨L.blk, 0, L.n, .row .cell⟩ W := by
  obtain ⟨q1, q2, q3, C, t, fr, pre, front, tail, q4, q5, q6, q7, q8, q9⟩ := h
  exact ⟨rfl, trivial, trivial, C, t, fr, [], [], C.toList, q4, by simp, rfl, q7, trivial, fun h => by cases h⟩
end Go.Proofs.YtodkhgofmgaafaaDoor.Av

namespace Go.Proofs.YtodkhgofmgaafaaDoor.Av
open Go Go.ChangeShapes Go.WideShapes
set_option linter.all false
set_option maxRecDepth 3000

/-! a law that reads some rows of bytes, and some of the package's variables -/
theorem calls_bool_n {P : Program} {f : Nat} {args : List D} {m0 : Mem} {np : Nat} (hnp : np ≤ 1000) (h : AC P f args np m0 ⟨.bool true, [], []⟩) {W : World} {vals : List Value} {loc : Nat → Loc} (hv : All2 (Rep (fun i => if i < np then some (loc i) else none)) args vals)
    (hm : ∀ i e, get m0 i = some e → e.rw = false ∧ ((i < np ∧ SatE (fun _ => none) e (loc i) W) ∨ ∃ g, i = gid g ∧ ∃ L : Loc, (L.blk = g ∧ L.base = 0) ∧ SatE (fun _ => none) e L W)) :
    Calls P f vals.toArray W fun e W' => e = .returned (.bool true) ∧ W'.os = W.os ∧ W'.output = W.output ∧ W.heap.size ≤ W'.heap.size ∧ ∀ b, b < W.heap.size → W'.heap[b]? = W.heap[b]? := by
  have hgi : ∀ {a b : Nat}, gid a = gid b → a = b := fun h => by unfold gid at h; omega
  have hg0 : ∀ g, ¬ gid g < np := fun g => by unfold gid; omega
  have hm2 : ∀ i e, get m0 i = some e → ¬ i < np → ∃ g, i = gid g ∧ ∃ L : Loc, (L.blk = g ∧ L.base = 0) ∧ SatE (fun _ => none) e L W := fun i e hi h0 => by
    rcases (hm i e hi).2 with ⟨h1, _⟩ | h1
    · exact absurd h1 h0
    · exact h1
  let ρ0 : Env := fun i => if h0 : i < np then some (loc i) else @dite _ (∃ e, get m0 i = some e) (Classical.propDecidable _) (fun hi => some (hm2 i hi.choose hi.choose_spec h0).choose_spec.2.choose) (fun _ => none)
  have hle : Env.le (fun _ => none) ρ0 := fun i L h => by cases h
  have hle0 : Env.le (fun i => if i < np then some (loc i) else none) ρ0 := fun i L h => by
    have h : (if i < np then some (loc i) else none) = some L := h
    split at h
    · rename_i h0
      show dite _ _ _ = _
      rw [dif_pos h0]; exact h
    · cases h
  have h00 : ∀ i, i < np → ρ0 i = some (loc i) := fun i h => dif_pos h
  have hρ : ∀ i e, get m0 i = some e → ¬ i < np → ∃ g L, i = gid g ∧ ρ0 i = some L ∧ (L.blk = g ∧ L.base = 0) ∧ SatE (fun _ => none) e L W := fun i e hi h0 => by
    have hx : ∃ e, get m0 i = some e := ⟨e, hi⟩
    have he : hx.choose = e := Option.some.inj (hx.choose_spec.symm.trans hi)
    have hs := (hm2 i hx.choose hx.choose_spec h0).choose_spec.2.choose_spec
    have hg := (hm2 i hx.choose hx.choose_spec h0).choose_spec.1
    refine ⟨_, _, hg, (dif_neg h0).trans (dif_pos hx), hs.1, ?_⟩
    have h2 := hs.2
    generalize (hm2 i hx.choose hx.choose_spec h0).choose_spec.2.choose = L at h2
    rw [he] at h2
    exact h2
  have hno : ∀ i L, ρ0 i = some L → ¬ i < np → ∃ e, get m0 i = some e := fun i L hi h0 => by
    by_cases hx : ∃ e, get m0 i = some e
    · exact hx
    · have : ρ0 i = none := (dif_neg h0).trans (dif_neg hx)
      rw [this] at hi; cases hi
  have hsat : ∀ i e, get m0 i = some e → ∃ L, ρ0 i = some L ∧ SatE ρ0 e L W := fun i e hi => by
    by_cases h0 : i < np
    · rcases (hm i e hi).2 with ⟨_, h1⟩ | ⟨g, h1, _⟩
      · exact ⟨loc i, h00 i h0, h1.mono hle⟩
      · exact absurd (h1 ▸ h0) (hg0 g)
    · obtain ⟨g', L', h1, h2, h3, h4⟩ := hρ i e hi h0
      exact ⟨L', h2, h4.mono hle⟩
  refine (h.2 ρ0 W vals (hv.mono fun a b hab => Rep.mono hle0 hab)
    ⟨fun g L h' => ?_, hsat, fun i j ei ej Li Lj hi hj hne hr => ?_, fun i e L' hi hr => ?_, fun _ _ _ => rfl, Nat.le_refl _, rfl, rfl, rfl⟩ (fun i hi => ?_)).mono fun e W' ⟨v, ρ', he, _, _, hr, hI⟩ => ?_
  · obtain ⟨e, he⟩ := hno _ _ h' (hg0 g)
    obtain ⟨g', L', h1, h2, h3, _⟩ := hρ _ e he (hg0 g)
    rw [h'] at h2; cases h2
    rw [hgi h1]; exact h3
  · rw [(hm i ei hi).1] at hr; cases hr
  · rw [(hm i e hi).1] at hr; cases hr
  · by_cases h0 : i < np
    · exact .inl h0
    · cases hL : ρ0 i with
      | none => exact absurd hL hi
      | some L =>
        obtain ⟨e, he⟩ := hno _ _ hL h0
        obtain ⟨g', L', h1, _⟩ := hρ _ e he h0
        right; rw [h1]; unfold gid; omega
  · have hr : v = .bool true := hr
    subst hr
    refine ⟨he, hI.os, hI.out, hI.size, fun b hb => hI.ext b hb (fun ⟨i, e, L', h1, h2, _⟩ => ?_)⟩
    rw [(hm i e h1).1] at h2; cases h2


section
variable {H : Type} {enc : TypeId × Value → H} {P : Program}
/-- a slice of bytes, nil or not: its bytes, and where they lie -/
theorem open_slD {t e : TypeId} (ht : P.underlying t = some (.slice e)) (he : P.underlying e = some (.int .u8)) (hc : P.cellsOf e = 1) {r : Reach} {b0 : Nat} {W : World} {v : Value} {d : DataW H} {ps : List MemPlace} {L9 : Loc}
    (h9 : SatE (fun _ => none) ⟨.row .cell, .u8s [], false⟩ L9 W) (hval : Value.okWide P W r b0 t v) (hd : DataW.Trod enc P W 0 (fun _ => true) true t v d ps) :
    ∃ (l : List (BitVec 8)) (L : Loc) (x : Option Nat), (x = none → l.length = 0) ∧ SatE (fun _ => none) ⟨.row .cell, .u8s l, false⟩ L W ∧ (∀ (ρ : Env) (i : Nat), ρ i = some L → Rep ρ (slD i l.length x) v) ∧
      (∀ (W' : World) (sp : Nat → Bool), (∀ b, b < W.heap.size → W'.heap[b]? = W.heap[b]?) → (∀ p ∈ ps, sp p.block = true) → DataW.Trod enc P W' 0 sp true t v d ps) := by
  rcases open_slice ht he hc hval hd with ⟨rfl, rfl, hst⟩ | ⟨l, L, cap, hcap, hcap2, hsat, hrep, hst, es, sp0, hd2, hes⟩
  · exact ⟨[], L9, none, fun _ => rfl, h9, fun ρ i _ => rfl, fun W' sp _ _ => hst W' sp⟩
  · exact ⟨l, L, some cap, fun h => (nomatch h), hsat, hrep, hst⟩
/-- .. and how many it may be -/
theorem open_slD2 {t e : TypeId} (ht : P.underlying t = some (.slice e)) (he : P.underlying e = some (.int .u8)) (hc : P.cellsOf e = 1) {r : Reach} {b0 : Nat} {W : World} {v : Value} {d : DataW H} {ps : List MemPlace} {L9 : Loc}
    (h9 : SatE (fun _ => none) ⟨.row .cell, .u8s [], false⟩ L9 W) (hval : Value.okWide P W r b0 t v) (hd : DataW.Trod enc P W 0 (fun _ => true) true t v d ps) :
    ∃ (l : List (BitVec 8)) (L : Loc) (x : Option Nat), (x = none → l.length = 0) ∧ SatE (fun _ => none) ⟨.row .cell, .u8s l, false⟩ L W ∧ (∀ (ρ : Env) (i : Nat), ρ i = some L → Rep ρ (slD i l.length x) v) ∧
      (∀ (W' : World) (sp : Nat → Bool), (∀ b, b < W.heap.size → W'.heap[b]? = W.heap[b]?) → (∀ p ∈ ps, sp p.block = true) → DataW.Trod enc P W' 0 sp true t v d ps) ∧ (l.length = 0 ∨ ∃ es sp, d = .slice es sp ∧ es.length = l.length) := by
  rcases open_slice ht he hc hval hd with ⟨rfl, rfl, hst⟩ | ⟨l, L, cap, hcap, hcap2, hsat, hrep, hst, hes⟩
  · exact ⟨[], L9, none, fun _ => rfl, h9, fun ρ i _ => rfl, fun W' sp _ _ => hst W' sp, .inl rfl⟩
  · exact ⟨l, L, some cap, fun h => (nomatch h), hsat, hrep, hst, .inr hes⟩
end
end Go.Proofs.YtodkhgofmgaafaaDoor.Av

namespace Go.Proofs.YtodkhgofmgaafaaDoor.Av
open Go Go.ChangeShapes Go.WideShapes
set_option linter.all false
set_option maxRecDepth 3000

/-! a slice of records that hold plain data and slices of bytes -/
theorem calls_bool_r {P : Program} {f : Nat} {args : List D} {m0 : Mem} {np : Nat} (hnp : np ≤ 1000) (h : AC P f args np m0 ⟨.bool true, [], []⟩) {W : World} {vals : List Value} {loc : Nat → Loc} (hv : All2 (Rep (fun i => if i < np then some (loc i) else none)) args vals)
    (hm : ∀ i e, get m0 i = some e → e.rw = false ∧ ((i < np ∧ SatE (fun i => if i < np then some (loc i) else none) e (loc i) W) ∨ ∃ g, i = gid g ∧ ∃ L : Loc, (L.blk = g ∧ L.base = 0) ∧ SatE (fun _ => none) e L W)) :
    Calls P f vals.toArray W fun e W' => e = .returned (.bool true) ∧ W'.os = W.os ∧ W'.output = W.output ∧ W.heap.size ≤ W'.heap.size ∧ ∀ b, b < W.heap.size → W'.heap[b]? = W.heap[b]? := by
  have hgi : ∀ {a b : Nat}, gid a = gid b → a = b := fun h => by unfold gid at h; omega
  have hg0 : ∀ g, ¬ gid g < np := fun g => by unfold gid; omega
  have hm2 : ∀ i e, get m0 i = some e → ¬ i < np → ∃ g, i = gid g ∧ ∃ L : Loc, (L.blk = g ∧ L.base = 0) ∧ SatE (fun _ => none) e L W := fun i e hi h0 => by
    rcases (hm i e hi).2 with ⟨h1, _⟩ | h1
    · exact absurd h1 h0
    · exact h1
  let ρ0 : Env := fun i => if h0 : i < np then some (loc i) else @dite _ (∃ e, get m0 i = some e) (Classical.propDecidable _) (fun hi => some (hm2 i hi.choose hi.choose_spec h0).choose_spec.2.choose) (fun _ => none)
  have hle : Env.le (fun _ => none) ρ0 := fun i L h => by cases h
  have hle0 : Env.le (fun i => if i < np then some (loc i) else none) ρ0 := fun i L h => by
    have h : (if i < np then some (loc i) else none) = some L := h
    split at h
    · rename_i h0
      show dite _ _ _ = _
      rw [dif_pos h0]; exact h
    · cases h
  have h00 : ∀ i, i < np → ρ0 i = some (loc i) := fun i h => dif_pos h
  have hρ : ∀ i e, get m0 i = some e → ¬ i < np → ∃ g L, i = gid g ∧ ρ0 i = some L ∧ (L.blk = g ∧ L.base = 0) ∧ SatE (fun _ => none) e L W := fun i e hi h0 => by
    have hx : ∃ e, get m0 i = some e := ⟨e, hi⟩
    have he : hx.choose = e := Option.some.inj (hx.choose_spec.symm.trans hi)
    have hs := (hm2 i hx.choose hx.choose_spec h0).choose_spec.2.choose_spec
    have hg := (hm2 i hx.choose hx.choose_spec h0).choose_spec.1
    refine ⟨_, _, hg, (dif_neg h0).trans (dif_pos hx), hs.1, ?_⟩
    have h2 := hs.2
    generalize (hm2 i hx.choose hx.choose_spec h0).choose_spec.2.choose = L at h2
    rw [he] at h2
    exact h2
  have hno : ∀ i L, ρ0 i = some L → ¬ i < np → ∃ e, get m0 i = some e := fun i L hi h0 => by
    by_cases hx : ∃ e, get m0 i = some e
    · exact hx
    · have : ρ0 i = none := (dif_neg h0).trans (dif_neg hx)
      rw [this] at hi; cases hi
  have hsat : ∀ i e, get m0 i = some e → ∃ L, ρ0 i = some L ∧ SatE ρ0 e L W := fun i e hi => by
    by_cases h0 : i < np
    · rcases (hm i e hi).2 with ⟨_, h1⟩ | ⟨g, h1, _⟩
      · exact ⟨loc i, h00 i h0, h1.mono hle0⟩
      · exact absurd (h1 ▸ h0) (hg0 g)
    · obtain ⟨g', L', h1, h2, h3, h4⟩ := hρ i e hi h0
      exact ⟨L', h2, h4.mono hle⟩
  refine (h.2 ρ0 W vals (hv.mono fun a b hab => Rep.mono hle0 hab)
    ⟨fun g L h' => ?_, hsat, fun i j ei ej Li Lj hi hj hne hr => ?_, fun i e L' hi hr => ?_, fun _ _ _ => rfl, Nat.le_refl _, rfl, rfl, rfl⟩ (fun i hi => ?_)).mono fun e W' ⟨v, ρ', he, _, _, hr, hI⟩ => ?_
  · obtain ⟨e, he⟩ := hno _ _ h' (hg0 g)
    obtain ⟨g', L', h1, h2, h3, _⟩ := hρ _ e he (hg0 g)
    rw [h'] at h2; cases h2
    rw [hgi h1]; exact h3
  · rw [(hm i ei hi).1] at hr; cases hr
  · rw [(hm i e hi).1] at hr; cases hr
  · by_cases h0 : i < np
    · exact .inl h0
    · cases hL : ρ0 i with
      | none => exact absurd hL hi
      | some L =>
        obtain ⟨e, he⟩ := hno _ _ hL h0
        obtain ⟨g', L', h1, _⟩ := hρ _ e he h0
        right; rw [h1]; unfold gid; omega
  · have hr : v = .bool true := hr
    subst hr
    refine ⟨he, hI.os, hI.out, hI.size, fun b hb => hI.ext b hb (fun ⟨i, e, L', h1, h2, _⟩ => ?_)⟩
    rw [(hm i e h1).1] at h2; cases h2

section
variable {H : Type} {enc : TypeId × Value → H} {P : Program}

/-- no slice is of things of no size -/
def slicesB (P : Program) : Bool := (List.range P.types.size).all fun t => match P.underlying t with
  | some (.slice e) => Nat.blt 0 (P.cellsOf e)
  | _ => true
theorem slicesB_spec (h : slicesB P = true) {t e : TypeId} (ht : t < P.types.size) (hu : P.underlying t = some (.slice e)) : 0 < P.cellsOf e := by
  have := List.all_eq_true.1 h t (List.mem_range.2 ht)
  rw [hu] at this
  have this : Nat.blt 0 (P.cellsOf e) = true := this
  rw [blt_eq] at this
  simpa using this
/-- arguments read the same wherever all that they reach is as it was -/
theorem trodAll_stays (hl : laidOutB P = true) (hm : mapsRowed P = true) (hs : slicesB P = true) {W W' : World} (hW : ∀ b, b < W.heap.size → W'.heap[b]? = W.heap[b]?) {sp : Nat → Bool} :
    ∀ {ts : List TypeId} {vs : List Value} {ds : List (DataW H)} {ps : List MemPlace}, (∀ t ∈ ts, t < P.types.size) → DataW.TrodAll enc P W 0 (fun _ => true) true ts vs ds ps → (∀ p ∈ ps, sp p.block = true) → DataW.TrodAll enc P W' 0 sp true ts vs ds ps
  | [], [], [], ps, _, h, _ => h
  | t :: ts, v :: vs, d :: ds, ps, ht, h, hp => by
    obtain ⟨p, q, ⟨fuel, h1⟩, h2, rfl⟩ := h
    have K := kids_rows hl hm
    have hgood := DataW.trod_good K (fun h => by cases h) fuel t _ _ (ht t (by simp)) h1
    refine ⟨p, q, ⟨fuel, DataW.trod_stays K (fun ht hu => slicesB_spec hs ht hu) (fun h => by cases h) (ht t (by simp)) h1 (fun x hx => ?_) (fun x hx => hp x (List.mem_append_left _ hx))⟩,
      trodAll_stays hl hm hs hW (fun t' ht' => ht t' (by simp [ht'])) h2 (fun x hx => hp x (List.mem_append_right _ hx)), rfl⟩
    have hg := hgood x hx
    cases x with
    | cell b off =>
      obtain ⟨v', h3, _⟩ := hg
      have hb : b < W.heap.size := by
        rcases Nat.lt_or_ge b W.heap.size with h | h
        · exact h
        · simp only [World.cell?] at h3
          rw [Array.getElem?_eq_none h] at h3; cases h3
      show W'.cell? _ = W.cell? _
      simp only [World.cell?, hW b hb]
    | map b =>
      obtain ⟨es, c, h3⟩ := hg
      have hb : b < W.heap.size := by
        rcases Nat.lt_or_ge b W.heap.size with h | h
        · exact h
        · rw [Array.getElem?_eq_none h] at h3; cases h3
      exact hW b hb
  | [], [], _ :: _, _, _, h, _ => h.elim
  | [], _ :: _, _, _, _, h, _ => h.elim
  | _ :: _, [], _, _, _, h, _ => h.elim
  | _ :: _, _ :: _, [], _, _, h, _ => h.elim

/-- a slice of bytes in a cell -/
theorem open_slC {t e : TypeId} (ht : P.underlying t = some (.slice e)) (he : P.underlying e = some (.int .u8)) (hc : P.cellsOf e = 1) {W : World} {fuel : Nat} {cs : List Value} {y : DataW H × List MemPlace} {L9 : Loc}
    (h9 : SatE (fun _ => none) ⟨.row .cell, .u8s [], false⟩ L9 W) (hd : DataW.trod enc P W 0 (fun _ => true) true fuel t cs = some y) :
    ∃ (l : List (BitVec 8)) (L : Loc) (x : Option Nat), (x = none → l.length = 0) ∧ SatE (fun _ => none) ⟨.row .cell, .u8s l, false⟩ L W ∧ (∀ (ρ : Env) (i : Nat), ρ i = some L → All2 (RepS ρ) (slD i l.length x).flat cs) := by
  rcases open_ints ht he hc hd with ⟨rfl, hx⟩ | ⟨a, len, cap, zs, rfl, _, hl, hm, hz, hx, hcell, hwz⟩
  · exact ⟨[], L9, none, fun _ => rfl, h9, fun ρ i _ => ⟨rfl, trivial⟩⟩
  simp only [if_true] at hz
  by_cases h0 : cap = 0
  · have : len = 0 := by omega
    subst this h0
    refine ⟨[], L9, some 0, fun _ => rfl, h9, fun ρ i hρ => ⟨⟨L9, hρ, .row .cell, .cell, a, 0, ?_, rfl, rfl, Nat.le_refl _, by omega, fun k hk => (by cases hk; rfl), fun h => absurd h (Nat.lt_irrefl 0)⟩, trivial⟩⟩
    rw [h9.ty]; rfl
  · obtain ⟨ab, ao, spot⟩ := a
    have h1 := hcell 0 (by omega)
    have hspot : spot = none := by
      simp only [World.cell?] at h1
      split at h1
      · split at h1
        · cases h1
        · rename_i h2
          have h2 : spot.isSome = false := by simpa [Addr.add] using h2
          cases spot with
          | none => rfl
          | some _ => cases h2
      · cases h1
    subst hspot
    obtain ⟨C, T, fr, hC⟩ : ∃ C T fr, W.heap[ab]? = some (.cells C T fr) := by
      simp only [World.cell?] at h1
      split at h1
      · rename_i C T fr hC
        exact ⟨C, T, fr, hC⟩
      · cases h1
    have hcell' : ∀ i, i < cap → C[ao + i]? = some (.int .u8 (zs.getD i 0)) := by
      intro i hi
      have := hcell i (by omega)
      rw [Addr.add_lit] at this
      simpa [World.cell?, hC] using this
    have hbd : ao + cap ≤ C.size := by
      have := hcell' (cap - 1) (by omega)
      rcases Nat.lt_or_ge (ao + (cap - 1)) C.size with h | h
      · omega
      · rw [Array.getElem?_eq_none h] at this; cases this
    let l : List (BitVec 8) := (zs.take len).map fun n => BitVec.ofNat 8 n.toNat
    have hll : l.length = len := by simp [l]; omega
    refine ⟨l, ⟨ab, ao, C.size, .row .cell⟩, some cap, (fun h => nomatch h), ⟨rfl, trivial, trivial, C, T, fr, C.toList.take ao, (C.toList.drop ao).take len, C.toList.drop (ao + len), hC, list_win C.toList ao len, ?_, rfl, ?_, fun h => by cases h⟩, fun ρ i hρ => ⟨?_, trivial⟩⟩
    · rw [List.length_take, Array.length_toList]
      show min ao C.size = ao
      omega
    · show All2 _ (l.map D.u8) _
      have key : ∀ (n : Nat) (zs : List Int) (cs : List Value), n ≤ zs.length → (∀ z ∈ zs, (Lit.int .u8 z).wf = true) → (∀ i, i < n → cs[i]? = some (.int .u8 (zs.getD i 0))) → cs.length = n →
          All2 (RepS (fun _ => none)) (((zs.take n).map fun n => BitVec.ofNat 8 n.toNat).map D.u8) cs := by
        intro n
        induction n with
        | zero =>
          intro zs cs _ _ _ hlen
          have : cs = [] := List.eq_nil_of_length_eq_zero hlen
          subst this
          exact trivial
        | succ n ih =>
          intro zs cs hn hw hcs hlen
          match zs, cs, hn, hlen with
          | z :: zs, c :: cs, hn, hlen =>
            have h0 := hcs 0 (by omega)
            simp at h0
            subst h0
            refine ⟨rep_u8 (ρ := fun _ => none) (hw z (by simp)), ih zs cs (by simpa using hn) (fun x hx => hw x (List.mem_cons_of_mem _ hx)) (fun i hi => ?_) (by simpa using hlen)⟩
            simpa using hcs (i + 1) (by omega)
      refine key len zs _ (by omega) hwz (fun i hi => ?_) ?_
      · rw [List.getElem?_take, if_pos hi, List.getElem?_drop, Array.getElem?_toList]
        exact hcell' i (by omega)
      · rw [List.length_take, List.length_drop, Array.length_toList]; omega
    · refine ⟨_, hρ, .row .cell, .cell, ⟨ab, ao, none⟩, cap, rfl, rfl, by rw [hll], by omega, by unfold maxLen at hm; omega, fun k hk => by cases hk; rfl, fun h0 => ?_⟩
      simp only [offAt, Ty.size]
      exact ⟨by simp, by omega⟩
end
end Go.Proofs.YtodkhgofmgaafaaDoor.Av

namespace Go.Proofs.YtodkhgofmgaafaaDoor.Av
open Go Go.ChangeShapes Go.WideShapes
set_option linter.all false
set_option maxRecDepth 3000

def isBS (P : Program) (t : TypeId) : Bool := match P.underlying t with
  | some (.slice e) => (match P.underlying e with
    | some (.int .u8) => P.cellsOf e == 1
    | _ => false)
  | _ => false
theorem isBS_spec {P : Program} {t : TypeId} (h : isBS P t = true) : ∃ e, P.underlying t = some (.slice e) ∧ P.underlying e = some (.int .u8) ∧ P.cellsOf e = 1 := by
  unfold isBS at h
  split at h
  · rename_i e hu
    split at h
    · rename_i he
      exact ⟨e, hu, he, by simpa using h⟩
    · cases h
  · cases h
/-- a record's fields: the slices of bytes lie in the blocks n, n + 1, .. -/
def canF (P : Program) (k : Nat) : Nat → List (List (BitVec 8)) → List TypeId → List D → Prop
  | _, bl, [], [] => bl = []
  | n, bl, t :: ts, d :: ds => match isBS P t with
    | true => match bl with
      | l :: bl' => (∃ x, (x = none → l.length = 0) ∧ d = slD n l.length x) ∧ canF P k (n + 1) bl' ts ds
      | [] => False
    | false => canE P k t d ∧ canF P k n bl ts ds
  | _, _, _, _ => False
theorem canF_length {P : Program} {k : Nat} : ∀ {ts : List TypeId} {n : Nat} {bl : List (List (BitVec 8))} {ds : List D}, canF P k n bl ts ds → ds.length = ts.length
  | [], _, _, [], _ => rfl
  | t :: ts, n, bl, d :: ds, h => by
    unfold canF at h
    split at h
    · cases bl with
      | nil => exact h.elim
      | cons l bl => rw [List.length_cons, List.length_cons, canF_length h.2]
    · rw [List.length_cons, List.length_cons, canF_length h.2]
  | [], _, bl, _ :: _, h => by unfold canF at h; exact h.elim
  | _ :: _, _, bl, [], h => by unfold canF at h; exact h.elim
def mixT (P : Program) (k : Nat) (t : TypeId) : Bool := match P.underlying t with
  | some (.struct fs) => inRow P fs.toList 0 (P.cellsOf t) && fs.toList.all (fun f => isBS P f.type || flatT P k f.type)
  | _ => false
def fieldT (P : Program) (t : TypeId) : List TypeId := match P.underlying t with
  | some (.struct fs) => fs.toList.map (·.type)
  | _ => []

section
variable {H : Type} {enc : TypeId × Value → H} {P : Program}

theorem fields_open (k : Nat) {W : World} {L9 : Loc} {m : Nat} (h9 : SatE (fun _ => none) ⟨.row .cell, .u8s [], false⟩ L9 W) (chunk : Field → List Value) :
    ∀ (l : List Field) (r : List (DataW H × List MemPlace)) (n : Nat), l.mapM (fun f => DataW.trod enc P W 0 (fun _ => true) true m f.type (chunk f)) = some r → (∀ f ∈ l, (isBS P f.type || flatT P k f.type) = true) →
    ∃ (bl : List (List (BitVec 8) × Loc)) (ds : List D), canF P k n (bl.map (·.1)) (l.map (·.type)) ds ∧ bl.length = (l.filter fun f => isBS P f.type).length ∧ (∀ p ∈ bl, SatE (fun _ => none) ⟨.row .cell, .u8s p.1, false⟩ p.2 W) ∧
      ∀ ρ : Env, (∀ (j : Nat) p, bl[j]? = some p → ρ (n + j) = some p.2) → All2 (RepS ρ) (D.flats ds) (l.flatMap chunk)
  | [], r, n, _, _ => ⟨[], [], rfl, rfl, (fun _ h => nomatch h), fun _ _ => trivial⟩
  | f :: l, r, n, h, hf => by
    rw [List.mapM_cons] at h
    simp only [bind, Option.bind_eq_some_iff, pure, Option.some.injEq] at h
    obtain ⟨y, hy, ys, hys, rfl⟩ := h
    cases hb : isBS P f.type with
    | true =>
      obtain ⟨e, h1, h2, h3⟩ := isBS_spec hb
      obtain ⟨by_, L, x, hx, hs, hr⟩ := open_slC h1 h2 h3 h9 hy
      obtain ⟨bl, ds, k1, k2, k3, k4⟩ := fields_open k h9 chunk l ys (n + 1) hys (fun g hg => hf g (by simp [hg]))
      refine ⟨(by_, L) :: bl, slD n by_.length x :: ds, ?_, ?_, ?_, ?_⟩
      · simp only [List.map_cons, canF, hb]
        exact ⟨⟨x, hx, rfl⟩, k1⟩
      · simp [hb, k2]
      · intro p hp
        rcases List.mem_cons.1 hp with rfl | hp
        · exact hs
        · exact k3 p hp
      · intro ρ hρ
        rw [List.flatMap_cons]
        refine (hr ρ n (hρ 0 _ rfl)).append (k4 ρ fun j p hj => ?_)
        have := hρ (j + 1) p (by simpa using hj)
        rw [← this]; congr 1; omega
    | false =>
      have hfl : flatT P k f.type = true := by
        have := hf f (by simp)
        rw [hb, Bool.false_or] at this; exact this
      obtain ⟨_, ⟨d, h2, h3⟩, _⟩ := trod_flat k hfl hy
      obtain ⟨bl, ds, k1, k2, k3, k4⟩ := fields_open k h9 chunk l ys n hys (fun g hg => hf g (by simp [hg]))
      refine ⟨bl, d :: ds, ?_, ?_, k3, fun ρ hρ => ?_⟩
      · simp only [List.map_cons, canF, hb]
        exact ⟨h2, k1⟩
      · simp [hb, k2]
      · rw [List.flatMap_cons]
        exact (h3 ρ).append (k4 ρ hρ)

/-- a record -/
theorem record_open (k : Nat) {t : TypeId} (ht : mixT P k t = true) {W : World} {L9 : Loc} {fuel : Nat} {cs : List Value} {y : DataW H × List MemPlace} (h9 : SatE (fun _ => none) ⟨.row .cell, .u8s [], false⟩ L9 W)
    (hd : DataW.trod enc P W 0 (fun _ => true) true fuel t cs = some y) (n : Nat) :
    ∃ (bl : List (List (BitVec 8) × Loc)) (ds : List D), canF P k n (bl.map (·.1)) (fieldT P t) ds ∧ bl.length = ((fieldT P t).filter (isBS P)).length ∧ (∀ p ∈ bl, SatE (fun _ => none) ⟨.row .cell, .u8s p.1, false⟩ p.2 W) ∧
      ∀ ρ : Env, (∀ (j : Nat) p, bl[j]? = some p → ρ (n + j) = some p.2) → All2 (RepS ρ) (D.flats ds) cs := by
  unfold mixT at ht
  split at ht
  rotate_left
  · cases ht
  rename_i fs hu
  simp only [Bool.and_eq_true, List.all_eq_true] at ht
  cases fuel with
  | zero => simp [DataW.trod] at hd
  | succ m =>
    unfold DataW.trod at hd
    rw [hu] at hd
    simp only at hd
    split at hd
    rotate_left
    · cases hd
    rename_i hlen
    rw [Option.map_eq_some_iff] at hd
    obtain ⟨xs, hx, rfl⟩ := hd
    obtain ⟨bl, ds, k1, k2, k3, k4⟩ := fields_open k h9 (fun f => (cs.drop f.offset).take (P.cellsOf f.type)) fs.toList xs n hx ht.2
    have hft : fieldT P t = fs.toList.map (·.type) := by unfold fieldT; rw [hu]
    refine ⟨bl, ds, by rw [hft]; exact k1, ?_, k3, fun ρ hρ => ?_⟩
    · rw [k2, hft, List.filter_map, List.length_map]; rfl
    · have := k4 ρ hρ
      rw [inRow_cells cs fs.toList 0 _ ht.1 hlen.symm] at this
      exact this

structure RowO where
  bl : List (List (BitVec 8) × Loc)
  ds : List D

/-- some records, one behind the other -/
theorem records_open (k : Nat) {e : TypeId} (he : mixT P k e = true) {W : World} {L9 : Loc} {m : Nat} (h9 : SatE (fun _ => none) ⟨.row .cell, .u8s [], false⟩ L9 W) (ab ao : Nat) (hp : 0 < P.cellsOf e) (c : Nat)
    (hc : c = ((fieldT P e).filter (isBS P)).length) : ∀ (len n : Nat) (o : Nat) (elems : List (DataW H × List MemPlace)), elems.length = len →
    (∀ i, i < len → (W.cells? 0 ((⟨ab, ao, none⟩ : Addr).add ((o + i) * P.cellsOf e)) (P.cellsOf e)).bind (DataW.trod enc P W 0 (fun _ => true) true m e) = elems[i]?) →
    ∃ (rows : List RowO) (cells : List Value), rows.length = len ∧ cells.length = len * P.cellsOf e ∧ (∀ j, j < len * P.cellsOf e → W.cell? ⟨ab, ao + (o * P.cellsOf e + j), none⟩ = cells[j]?) ∧
      (∀ (i : Nat) r, rows[i]? = some r → canF P k (n + i * c) (r.bl.map (·.1)) (fieldT P e) r.ds ∧ r.bl.length = c ∧ ∀ p ∈ r.bl, SatE (fun _ => none) ⟨.row .cell, .u8s p.1, false⟩ p.2 W) ∧
      ∀ ρ : Env, (∀ (i j : Nat) r p, rows[i]? = some r → r.bl[j]? = some p → ρ (n + i * c + j) = some p.2) → All2 (RepS ρ) (D.flats (rows.map fun r => .node r.ds)) cells
  | 0, n, o, elems, _, _ => ⟨[], [], rfl, by simp, fun j hj => absurd hj (by simp), fun i r h => by simp at h, fun _ _ => trivial⟩
  | len + 1, n, o, elems, hl, hel => by
    match elems, hl with
    | x :: elems, hl =>
      have h0 := hel 0 (by omega)
      rw [Nat.add_zero] at h0
      simp only [List.getElem?_cons_zero] at h0
      rw [Option.bind_eq_some_iff] at h0
      obtain ⟨cs, hcs, hx⟩ := h0
      obtain ⟨_, hcl, hcell⟩ := World.cells?_some hcs
      obtain ⟨bl, ds, k1, k2, k3, k4⟩ := record_open k he h9 hx n
      obtain ⟨rows, cells, j1, j2, j3, j4, j5⟩ := records_open k he h9 ab ao hp c hc len (n + c) (o + 1) elems (by simpa using hl) (fun i hi => by
        have := hel (i + 1) (by omega)
        rw [List.getElem?_cons_succ] at this
        rw [← this, show o + 1 + i = o + (i + 1) by omega])
      refine ⟨⟨bl, ds⟩ :: rows, cs ++ cells, by simp [j1], by rw [List.length_append, hcl, j2, Nat.add_mul]; omega, fun j hj => ?_, fun i r hr => ?_, fun ρ hρ => ?_⟩
      · by_cases hjc : j < P.cellsOf e
        · rw [List.getElem?_append_left (by omega)]
          have := hcell j hjc
          rw [← this, Addr.add_lit, Addr.add_lit, Nat.add_assoc]
        · rw [List.getElem?_append_right (by omega), hcl]
          have := j3 (j - P.cellsOf e) (by rw [Nat.add_mul] at hj; omega)
          rw [← this]
          congr 2
          rw [Nat.add_mul]; omega
      · cases i with
        | zero =>
          simp only [List.getElem?_cons_zero, Option.some.injEq] at hr
          subst hr
          rw [Nat.zero_mul, Nat.add_zero]
          exact ⟨k1, by rw [hc]; exact k2, k3⟩
        | succ i =>
          rw [List.getElem?_cons_succ] at hr
          have := j4 i r hr
          rw [show n + (i + 1) * c = n + c + i * c by rw [Nat.add_mul]; omega]
          exact this
      · refine (k4 ρ fun j p hj => ?_).append (j5 ρ fun i j r p hi hj => ?_)
        · have := hρ 0 j _ p rfl hj
          rw [Nat.zero_mul, Nat.add_zero] at this
          exact this
        · have := hρ (i + 1) j r p (by rw [List.getElem?_cons_succ]; exact hi) hj
          rw [← this]
          congr 1
          rw [Nat.add_mul]; omega

/-- a slice of records that came in -/
theorem open_recs (k : Nat) {t e : TypeId} (ht : P.underlying t = some (.slice e)) (he : mixT P k e = true) (hp : 0 < P.cellsOf e) (c : Nat) (hc : c = ((fieldT P e).filter (isBS P)).length) (tE : Ty) (hg : tE.flatTy) (hsz : tE.size = P.cellsOf e)
    (hE : ∀ n bl ds, canF P k n bl (fieldT P e) ds → hasTy tE (.node ds)) {r : Reach} {b0 : Nat} {W : World} {v : Value} {d : DataW H} {ps : List MemPlace} {L9 : Loc}
    (h9 : SatE (fun _ => none) ⟨.row .cell, .u8s [], false⟩ L9 W) (hval : Value.okWide P W r b0 t v) (hd : DataW.Trod enc P W 0 (fun _ => true) true t v d ps) :
    v = .slice none 0 0 ∨ ∃ (rows : List RowO) (L : Loc) (cap : Nat), rows.length ≤ cap ∧ cap < 9223372036854775808 ∧
      (∀ (i : Nat) r, rows[i]? = some r → canF P k (1 + i * c) (r.bl.map (·.1)) (fieldT P e) r.ds ∧ r.bl.length = c ∧ ∀ p ∈ r.bl, SatE (fun _ => none) ⟨.row .cell, .u8s p.1, false⟩ p.2 W) ∧
      (∀ ρ : Env, (∀ (i j : Nat) r p, rows[i]? = some r → r.bl[j]? = some p → ρ (1 + i * c + j) = some p.2) → SatE ρ ⟨.row tE, .node (rows.map fun r => .node r.ds), false⟩ L W) ∧
      ∀ (ρ : Env) (i : Nat), ρ i = some L → Rep ρ (.slice i [] 0 rows.length (some cap)) v := by
  obtain ⟨fuel, hf⟩ := hd
  have hval' : Cell.okWide P W r b0 t v := by
    simp only [Value.okWide, ht] at hval; exact hval
  rcases DataW.trod_slice ht hf with ⟨hcs, hx⟩ | ⟨a, len, cap, elems, rest, n, _, hcs, _, _, hl, hm, hlen, hel, hsp, _⟩
  · left
    cases v <;> simp_all [Value.cells]
    simp only [Cell.okWide, ht, Cell.ok] at hval'
  right
  have hv : v = .slice (some a) len cap := by
    cases v <;> simp_all [Value.cells]
    simp only [Cell.okWide, ht, Cell.ok] at hval'
  subst hv
  simp only [Cell.okWide, ht, Cell.ok] at hval'
  obtain ⟨_, _, _, hspot, row, cells, hsh, _⟩ := hval'
  obtain ⟨C, T, fr, hC⟩ := shape_cells hsh
  obtain ⟨ab, ao, spot⟩ := a
  have hspot : spot = none := hspot
  subst hspot
  have hC : W.heap[ab]? = some (.cells C T fr) := hC
  obtain ⟨rows, cells, j1, j2, j3, j4, j5⟩ := records_open k he h9 ab ao hp c hc len 1 0 elems hlen (fun i hi => by
    have := hel i hi
    rw [← this, Nat.zero_add])
  have hcl : ∀ j, j < len * P.cellsOf e → C[ao + j]? = cells[j]? := fun j hj => by
    have := j3 j hj
    rw [Nat.zero_mul, Nat.zero_add] at this
    rw [← this]
    simp [World.cell?, hC]
  have hbd : 0 < cap → ao + cap * P.cellsOf e ≤ C.size := by
    intro h0
    obtain ⟨y, hy⟩ : ∃ y, (W.cells? 0 ((⟨ab, ao, none⟩ : Addr).add ((cap - 1) * P.cellsOf e)) (P.cellsOf e)).bind (DataW.trod enc P W 0 (fun _ => true) true n e) = some y := by
      by_cases h : cap - 1 < len
      · rw [hel _ h]
        exact ⟨elems[cap - 1], by rw [List.getElem?_eq_getElem (by omega)]⟩
      · obtain ⟨h1, h2⟩ := hsp rfl
        have := h2 (cap - 1 - len) (by omega)
        rw [show len + (cap - 1 - len) = cap - 1 by omega] at this
        rw [this]
        exact ⟨rest[cap - 1 - len], by rw [List.getElem?_eq_getElem (by omega)]⟩
    rw [Option.bind_eq_some_iff] at hy
    obtain ⟨cs, hcs, _⟩ := hy
    obtain ⟨_, h1, h2⟩ := World.cells?_some hcs
    have h3 := h2 (P.cellsOf e - 1) (by omega)
    rw [Addr.add_lit, Addr.add_lit, List.getElem?_eq_getElem (by omega)] at h3
    have h4 : C[ao + (cap - 1) * P.cellsOf e + (P.cellsOf e - 1)]? = some (cs[P.cellsOf e - 1]'(by omega)) := by
      rw [← h3]; simp [World.cell?, hC]
    have h5 : ao + (cap - 1) * P.cellsOf e + (P.cellsOf e - 1) < C.size := by
      rcases Nat.lt_or_ge (ao + (cap - 1) * P.cellsOf e + (P.cellsOf e - 1)) C.size with h | h
      · exact h
      · rw [Array.getElem?_eq_none h] at h4; cases h4
    have h6 : cap * P.cellsOf e = (cap - 1) * P.cellsOf e + P.cellsOf e := by
      conv => lhs; rw [show cap = (cap - 1) + 1 by omega]
      rw [Nat.add_mul, Nat.one_mul]
    omega
  let base : Nat := if cap = 0 then 0 else ao
  have hlc : len * P.cellsOf e ≤ cap * P.cellsOf e := Nat.mul_le_mul_right _ hl
  have hbase : base + len * P.cellsOf e ≤ C.size := by
    by_cases h : cap = 0
    · have : len = 0 := by omega
      simp only [base, if_pos h]; subst this; rw [Nat.zero_mul]; omega
    · simp only [base, if_neg h]
      have := hbd (by omega)
      omega
  have hfront : (C.toList.drop base).take (len * P.cellsOf e) = cells := by
    apply List.ext_getElem?
    intro j
    rw [List.getElem?_take]
    by_cases hj : j < len * P.cellsOf e
    · have h : ¬ cap = 0 := by
        intro h
        have : len = 0 := by omega
        subst this
        rw [Nat.zero_mul] at hj; omega
      rw [if_pos hj, List.getElem?_drop, Array.getElem?_toList]
      simp only [base, if_neg h]
      exact hcl j hj
    · rw [if_neg hj, List.getElem?_eq_none (by omega)]
  refine ⟨rows, ⟨ab, base, C.size, .row tE⟩, cap, by omega, by unfold maxLen at hm; omega, j4, fun ρ hρ => ⟨rfl, hg, ?_, C, T, fr, C.toList.take base, (C.toList.drop base).take (len * P.cellsOf e), C.toList.drop (base + len * P.cellsOf e), hC, list_win C.toList base _, ?_, rfl, ?_, fun h => by cases h⟩, fun ρ i hρ => ?_⟩
  · show AllD (hasTy tE) _
    refine AllD_mem.2 fun d hd => ?_
    obtain ⟨r, hr, rfl⟩ := List.mem_map.1 hd
    obtain ⟨i, hi⟩ := List.getElem?_of_mem hr
    exact hE _ _ _ (j4 i r hi).1
  · rw [List.length_take, Array.length_toList]
    show min base C.size = base
    omega
  · show All2 (RepS ρ) (D.flats _) _
    rw [hfront]
    exact j5 ρ hρ
  · refine ⟨_, hρ, .row tE, tE, ⟨ab, ao, none⟩, cap, rfl, rfl, by rw [j1], by omega, by unfold maxLen at hm; omega, fun k hk => by cases hk; rfl, fun h0 => ?_⟩
    have h : ¬ cap = 0 := by omega
    have := hbd h0
    simp only [base, if_neg h, offAt]
    rw [hsz]
    exact ⟨by simp, by rw [Nat.zero_add cap]; omega⟩
end
end Go.Proofs.YtodkhgofmgaafaaDoor.Av
