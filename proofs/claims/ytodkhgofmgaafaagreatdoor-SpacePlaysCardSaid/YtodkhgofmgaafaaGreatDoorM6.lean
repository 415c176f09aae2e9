import Derived.Test.YtodkhgofmgaafaaGreatDoorM5
import Derived.Test.YtodkhgofmgaafaaGreatDoorM4
import Derived.Test.YtodkhgofmgaafaaGreatDoorM3
namespace Go.Proofs.YtodkhgofmgaafaaGreatDoor.Av
open Go
set_option linter.all false
set_option maxRecDepth 3000
theorem fG {ls : List Lo} {n : Nat} (hn : ls.length = n) (h : ∀ x ∈ ls, x.bytes.length = 512) {S : B8} {x a : Nat} {b : B8} (h1 : a = 512) (h2 : b = (loF S x).bytes) (h3 : (loF S x).bytes.length = 512) :
  gV (aH tLo) ((ls.map loD).take n ++ [D.node [.i64 (512 * x : Nat), .i64 (a : Nat), .u8s b]]) := by subst hn; exact aD0 h h1 h2 h3
theorem fF {l0 : Lo} {ls : List Lo} {n : Nat} (hn : ls.length = n) {S : B8} {x a : Nat} {b : B8} (h1 : a = 512) (h2 : b = (loF S x).bytes) :
  D.node (((l0 :: ls).map loD).take (n + 1) ++ [D.node [.i64 (512 * x : Nat), .i64 (a : Nat), .u8s b]]) = cQ ((l0 :: ls) ++ [loF S x]) := by subst hn; exact aDZ h1 h2
theorem aDV {K q : Nat} {xs : List (Fin K)} (h : xs.map (·.val) = List.range' q 1) : ∃ x : Fin K, xs = [x] ∧ x.val = q := by
 match xs, h with
 |[x], h => exact ⟨x, rfl, by simpa using h⟩
theorem aCg {K q : Nat} {xs : List (Fin K)} (h : xs.map (·.val) = List.range' q 2) : ∃ x y : Fin K, xs = [x, y] ∧ x.val = q ∧ y.val = q + 1 := by
 have hl : xs.length = 2 := by simpa using congrArg List.length h
 match xs, hl, h with
 |[x, y], _, h =>
  have h : [x.val, y.val] = [q, q + 1] := h
  exact ⟨x, y, rfl, by simpa using h⟩
section
variable (most N : Nat) (cap : Option Nat) (N2 : Nat) (cap2 : Option Nat) (ls : List Lo) (hls : ∀ x ∈ ls, x.bytes.length = 512) (st q o : Nat) (cap3 : Option Nat) (S B : B8) (hS : S.length = N)
include most N cap N2 cap2 ls hls st q o cap3 S B hS
set_option maxHeartbeats 2000000 in
theorem zE (hq : 512 * q + 512 ≤ N) (hB : o + 512 ≤ B.length) (hN : N < 4611686018427387904) (hp : 512 * q + 512 < 70368744177664) (hl : ls.length < 1000) :
  AC Tryz.prog 118 [.ptr 4 [], .ptr 5 [], .ptr 6 []] 8
   (cX 3 ls ++ [(0, some ⟨tDv, dvD most N cap N2 cap2 (dU 3 ls) st, true⟩), (1, some ⟨.row .cell, .u8s S, true⟩), (4, some ⟨.cell, .ptr 0 [], true⟩), (5, some ⟨.cell, .i64 (512 * q : Nat), true⟩), (6, some ⟨.cell, .slice 7 [] o 512 cap3, true⟩), (7, some ⟨.row .cell, .u8s B, false⟩)])
   ⟨.tup [], (cX 3 ls).map (fun p => (p.1, none)) ++ [(0, some (dvD most N cap N2 cap2 (.slice 8 [] 0 (ls.length + 1) none) st)), (1, some (.u8s (aV S ((B.drop o).take 512) (512 * q))))], [(.row tLo, cQ (ls ++ [loF (aV S ((B.drop o).take 512) (512 * q)) q]))]⟩ := by
 have hBl : ((B.drop o).take 512).length = 512 := by rw [List.length_take, List.length_drop]; omega
 have hlay := s9 S B (512 * q) o 512 N cap cap3 hS hq hB (by decide) hN
 rw [← mI (S := S) (B := (B.drop o).take 512) (p := 512 * q) (by rw [hBl]; omega)] at hlay
 have hsec := iI (512 * q) 512 (by omega) (by decide)
 have hL : (aV S ((B.drop o).take 512) (512 * q)).length = N := by rw [aU, hBl]; omega
 generalize (aV S ((B.drop o).take 512) (512 * q)) = S' at hlay hL ⊢
 refine acA tab mix Tryz.func118 {} ?_
 cases ls
 ·refine gob ?_
  refine aA hlay [1, 7] ?_
  refine aA hsec [] ?_
  have hg := cC 8 9 (512 * q) 512 q 1 (N / 512) (rw1 := true) (rw2 := true) (by omega) (by omega) (by rw [if_neg (by decide)]; omega) (by omega) (by omega) (by omega)
  refine RangeG.mk ⟨137, [.ptr 8 [], .ptr 9 []], [(8, ⟨.cell, .i64 (512 * q : Nat), true⟩), (9, ⟨.cell, .i64 (512 : Nat), true⟩)], Fin (N / 512), fun x => .i64 (512 * x.val : Nat), fun ys => ys.map (·.val) = List.range' q 1, 1, 19, 3, 2, _,
   fun pre => match pre with
    |[] => [(0, some ⟨tDv, dvD most N cap N2 cap2 (.nilslice) st, true⟩), (1, some ⟨.row .cell, .u8s S', true⟩), (4, some ⟨.cell, .ptr 0 [], true⟩), (5, some ⟨.cell, .i64 (512 * q : Nat), true⟩), (6, some ⟨.cell, .slice 7 [] o 512 cap3, true⟩), (7, some ⟨.row .cell, .u8s B, false⟩), (8, some ⟨.cell, .i64 (512 * q : Nat), true⟩), (9, some ⟨.cell, .i64 (512 : Nat), true⟩)]
    |x :: _ => [(0, some ⟨tDv, dvD most N cap N2 cap2 (.slice 10 [] 0 (1) none) st, true⟩), (1, some ⟨.row .cell, .u8s S', true⟩), (10, some ⟨.row tLo, cQ ([] ++ [loF S' x.val]), true⟩), (4, some ⟨.cell, .ptr 0 [], true⟩), (5, some ⟨.cell, .i64 (512 * q : Nat), true⟩), (6, some ⟨.cell, .slice 7 [] o 512 cap3, true⟩), (7, some ⟨.row .cell, .u8s B, false⟩), (8, some ⟨.cell, .i64 (512 * q : Nat), true⟩), (9, some ⟨.cell, .i64 (512 : Nat), true⟩)],
   11, [0, 1, 2, 3, 4, 5, 6, 7, 8, 9], rfl, hg, ⟨rfl, rfl, rfl, rfl, rfl, by decide, by decide⟩, ?_, ?_, ?_, ?_⟩
  ·intro p hp
   rcases List.mem_cons.1 hp with rfl | hp
   ·exact ⟨Nat.le_of_ble_eq_true rfl, rfl, fun pre => by cases pre <;> rfl⟩
   rcases List.mem_cons.1 hp with rfl | hp
   ·exact ⟨Nat.le_of_ble_eq_true rfl, rfl, fun pre => by cases pre <;> rfl⟩
   cases hp
  ·exact aK
  ·intro pre x hlt
   have hx : 512 * x.val + 512 ≤ N := by have := x.isLt; omega
   have e1 := lM S' N x.val hx
   have e2 := bR S' x.val (by omega)
   have e3 : (N - 512 * x.val).min (512 - 0) = 512 := Nat.min_eq_right (by omega)
   obtain rfl : pre = [] := by cases pre; rfl; simp at hlt
   refine gob ?_
   refine ⟨1, ?_⟩
   refine EffG.mk (And.intro ?_ ?_)
   ·(repeat' (first | exact trivial | refine And.intro ?_ ?_)) <;> first | omega | exact Nat.le_refl _ | rfl | exact (congrArg List.length e1).trans e2 | decide
   refine gob ?_
   refine ⟨[0, 1, 2, 3, 4, 5, 6, 7, 8, 9, 13], aK (h3 := ?_)⟩
   (repeat' (first | exact trivial | refine And.intro ⟨_, rfl, rfl, ?_, id⟩ ?_ | refine And.intro ⟨_, rfl, rfl, ?_, fun _ => rfl⟩ ?_)) <;> first | rfl | exact (congrArg (fun d => D.node [d]) (mH e3 e1)).trans (Pure.ren (d := cQ [loF S' x.val]) _).symm
  ·intro xs hxs
   obtain ⟨x, rfl, hy⟩ := aDV hxs
   refine gob ?_
   refine aI [0, 1, 2, 3, 4, 5, 6, 7, 10] (h3 := ?_)
   (repeat' (first | exact trivial | refine And.intro ⟨_, rfl, rfl, ?_, id⟩ ?_ | refine And.intro ⟨_, rfl, rfl, ?_, fun _ => rfl⟩ ?_)) <;> first | rfl | exact (Pure.ren _).symm | exact (congrArg (fun v => cQ ([] ++ [loF S' v])) hy).trans (Pure.ren _).symm
 ·rename_i l0 ls
  have hl2 : ls.length + 1 < 1000 := hl
  have hls1 := hls l0 (by simp)
  have hls2 : ∀ x ∈ ls, x.bytes.length = 512 := fun x hx => hls x (by simp [hx])
  refine gob ?_
  refine aA hlay [1, 7] ?_
  refine aA hsec [] ?_
  have hg := cC 8 9 (512 * q) 512 q 1 (N / 512) (rw1 := true) (rw2 := true) (by omega) (by omega) (by rw [if_neg (by decide)]; omega) (by omega) (by omega) (by omega)
  refine RangeG.mk ⟨137, [.ptr 8 [], .ptr 9 []], [(8, ⟨.cell, .i64 (512 * q : Nat), true⟩), (9, ⟨.cell, .i64 (512 : Nat), true⟩)], Fin (N / 512), fun x => .i64 (512 * x.val : Nat), fun ys => ys.map (·.val) = List.range' q 1, 1, 19, 3, 2, _,
   fun pre => match pre with
    |[] => [(0, some ⟨tDv, dvD most N cap N2 cap2 (.slice 3 [] 0 (ls.length + 1) none) st, true⟩), (1, some ⟨.row .cell, .u8s S', true⟩), (3, some ⟨.row tLo, cQ (l0 :: ls), true⟩), (4, some ⟨.cell, .ptr 0 [], true⟩), (5, some ⟨.cell, .i64 (512 * q : Nat), true⟩), (6, some ⟨.cell, .slice 7 [] o 512 cap3, true⟩), (7, some ⟨.row .cell, .u8s B, false⟩), (8, some ⟨.cell, .i64 (512 * q : Nat), true⟩), (9, some ⟨.cell, .i64 (512 : Nat), true⟩)]
    |x :: _ => [(0, some ⟨tDv, dvD most N cap N2 cap2 (.slice 10 [] 0 (ls.length + 1 + 1) none) st, true⟩), (1, some ⟨.row .cell, .u8s S', true⟩), (10, some ⟨.row tLo, cQ ((l0 :: ls) ++ [loF S' x.val]), true⟩), (4, some ⟨.cell, .ptr 0 [], true⟩), (5, some ⟨.cell, .i64 (512 * q : Nat), true⟩), (6, some ⟨.cell, .slice 7 [] o 512 cap3, true⟩), (7, some ⟨.row .cell, .u8s B, false⟩), (8, some ⟨.cell, .i64 (512 * q : Nat), true⟩), (9, some ⟨.cell, .i64 (512 : Nat), true⟩)],
   11, [0, 1, 2, 3, 4, 5, 6, 7, 8, 9], rfl, hg, ⟨rfl, rfl, rfl, rfl, rfl, by decide, by decide⟩, ?_, ?_, ?_, ?_⟩
  ·intro p hp
   rcases List.mem_cons.1 hp with rfl | hp
   ·exact ⟨Nat.le_of_ble_eq_true rfl, rfl, fun pre => by cases pre <;> rfl⟩
   rcases List.mem_cons.1 hp with rfl | hp
   ·exact ⟨Nat.le_of_ble_eq_true rfl, rfl, fun pre => by cases pre <;> rfl⟩
   cases hp
  ·exact aK
  ·intro pre x hlt
   have hx : 512 * x.val + 512 ≤ N := by have := x.isLt; omega
   have e1 := lM S' N x.val hx
   have e2 := bR S' x.val (by omega)
   have e3 : (N - 512 * x.val).min (512 - 0) = 512 := Nat.min_eq_right (by omega)
   obtain rfl : pre = [] := by cases pre; rfl; simp at hlt
   refine gob ?_
   refine ⟨0, ?_⟩
   refine EffG.mk (And.intro ?_ ?_)
   ·(repeat' (first | exact trivial | refine And.intro ?_ ?_)) <;> first | omega | exact Nat.le_refl _ | rfl | exact (congrArg List.length e1).trans e2 | decide | exact (show (ls.length + 1 + 1) * 528 ≤ 140737488355328 by omega) | exact (show ls.length + 1 + 1 < 9223372036854775808 by omega) | exact hls1 | exact (show 0 + (ls.length + 1) ≤ ((l0 :: ls).map loD).length by rw [List.length_map, List.length_cons]; omega) | exact fG rfl hls2 e3 e1 e2
   refine gob ?_
   refine ⟨[0, 1, 2, 3, 4, 5, 6, 7, 8, 9, 13], aK (h3 := ?_)⟩
   (repeat' (first | exact trivial | refine And.intro ⟨_, rfl, rfl, ?_, id⟩ ?_ | refine And.intro ⟨_, rfl, rfl, ?_, fun _ => rfl⟩ ?_)) <;> first | rfl | exact (fF (l0 := l0) (ls := ls) rfl e3 e1).trans (Pure.ren (d := cQ ((l0 :: ls) ++ [loF S' x.val])) _).symm
  ·intro xs hxs
   obtain ⟨x, rfl, hy⟩ := aDV hxs
   refine gob ?_
   refine aI [0, 1, 2, 3, 4, 5, 6, 7, 10] (h3 := ?_)
   (repeat' (first | exact trivial | refine And.intro ⟨_, rfl, rfl, ?_, id⟩ ?_ | refine And.intro ⟨_, rfl, rfl, ?_, fun _ => rfl⟩ ?_)) <;> first | rfl | exact (Pure.ren _).symm | exact (congrArg (fun v => cQ ((l0 :: ls) ++ [loF S' v])) hy).trans (Pure.ren _).symm
set_option maxHeartbeats 2000000 in
theorem zD (hq : 512 * q + 1024 ≤ N) (hB : o + 1024 ≤ B.length) (hN : N < 4611686018427387904) (hp : 512 * q + 1024 < 70368744177664) (hl : ls.length < 1000) :
  AC Tryz.prog 118 [.ptr 4 [], .ptr 5 [], .ptr 6 []] 8
   (cX 3 ls ++ [(0, some ⟨tDv, dvD most N cap N2 cap2 (dU 3 ls) st, true⟩), (1, some ⟨.row .cell, .u8s S, true⟩), (4, some ⟨.cell, .ptr 0 [], true⟩), (5, some ⟨.cell, .i64 (512 * q : Nat), true⟩), (6, some ⟨.cell, .slice 7 [] o 1024 cap3, true⟩), (7, some ⟨.row .cell, .u8s B, false⟩)])
   ⟨.tup [], (cX 3 ls).map (fun p => (p.1, none)) ++ [(0, some (dvD most N cap N2 cap2 (.slice 8 [] 0 (ls.length + 2) none) st)), (1, some (.u8s (aV S ((B.drop o).take 1024) (512 * q))))], [(.row tLo, cQ (ls ++ [loF (aV S ((B.drop o).take 1024) (512 * q)) q] ++ [loF (aV S ((B.drop o).take 1024) (512 * q)) (q + 1)]))]⟩ := by
 have hBl : ((B.drop o).take 1024).length = 1024 := by rw [List.length_take, List.length_drop]; omega
 have hlay := s9 S B (512 * q) o 1024 N cap cap3 hS hq hB (by decide) hN
 rw [← mI (S := S) (B := (B.drop o).take 1024) (p := 512 * q) (by rw [hBl]; omega)] at hlay
 have hsec := iI (512 * q) 1024 (by omega) (by decide)
 have hL : (aV S ((B.drop o).take 1024) (512 * q)).length = N := by rw [aU, hBl]; omega
 generalize (aV S ((B.drop o).take 1024) (512 * q)) = S' at hlay hL ⊢
 refine acA tab mix Tryz.func118 {} ?_
 cases ls
 ·refine gob ?_
  refine aA hlay [1, 7] ?_
  refine aA hsec [] ?_
  have hg := cC 8 9 (512 * q) 1024 q 2 (N / 512) (rw1 := true) (rw2 := true) (by omega) (by omega) (by rw [if_neg (by decide)]; omega) (by omega) (by omega) (by omega)
  refine RangeG.mk ⟨137, [.ptr 8 [], .ptr 9 []], [(8, ⟨.cell, .i64 (512 * q : Nat), true⟩), (9, ⟨.cell, .i64 (1024 : Nat), true⟩)], Fin (N / 512), fun x => .i64 (512 * x.val : Nat), fun ys => ys.map (·.val) = List.range' q 2, 2, 19, 3, 2, _,
   fun pre => match pre with
    |[] => [(0, some ⟨tDv, dvD most N cap N2 cap2 (.nilslice) st, true⟩), (1, some ⟨.row .cell, .u8s S', true⟩), (4, some ⟨.cell, .ptr 0 [], true⟩), (5, some ⟨.cell, .i64 (512 * q : Nat), true⟩), (6, some ⟨.cell, .slice 7 [] o 1024 cap3, true⟩), (7, some ⟨.row .cell, .u8s B, false⟩), (8, some ⟨.cell, .i64 (512 * q : Nat), true⟩), (9, some ⟨.cell, .i64 (1024 : Nat), true⟩)]
    |[x] => [(0, some ⟨tDv, dvD most N cap N2 cap2 (.slice 10 [] 0 (1) none) st, true⟩), (1, some ⟨.row .cell, .u8s S', true⟩), (10, some ⟨.row tLo, cQ ([] ++ [loF S' x.val]), true⟩), (4, some ⟨.cell, .ptr 0 [], true⟩), (5, some ⟨.cell, .i64 (512 * q : Nat), true⟩), (6, some ⟨.cell, .slice 7 [] o 1024 cap3, true⟩), (7, some ⟨.row .cell, .u8s B, false⟩), (8, some ⟨.cell, .i64 (512 * q : Nat), true⟩), (9, some ⟨.cell, .i64 (1024 : Nat), true⟩)]
    |x :: y :: _ => [(0, some ⟨tDv, dvD most N cap N2 cap2 (.slice 10 [] 0 (2) none) st, true⟩), (1, some ⟨.row .cell, .u8s S', true⟩), (10, some ⟨.row tLo, cQ ([] ++ [loF S' x.val] ++ [loF S' y.val]), true⟩), (4, some ⟨.cell, .ptr 0 [], true⟩), (5, some ⟨.cell, .i64 (512 * q : Nat), true⟩), (6, some ⟨.cell, .slice 7 [] o 1024 cap3, true⟩), (7, some ⟨.row .cell, .u8s B, false⟩), (8, some ⟨.cell, .i64 (512 * q : Nat), true⟩), (9, some ⟨.cell, .i64 (1024 : Nat), true⟩)],
   11, [0, 1, 2, 3, 4, 5, 6, 7, 8, 9], rfl, hg, ⟨rfl, rfl, rfl, rfl, rfl, by decide, by decide⟩, ?_, ?_, ?_, ?_⟩
  ·intro p hp
   rcases List.mem_cons.1 hp with rfl | hp
   ·exact ⟨Nat.le_of_ble_eq_true rfl, rfl, fun pre => by rcases pre with _ | ⟨a, _ | ⟨b, c⟩⟩ <;> rfl⟩
   rcases List.mem_cons.1 hp with rfl | hp
   ·exact ⟨Nat.le_of_ble_eq_true rfl, rfl, fun pre => by rcases pre with _ | ⟨a, _ | ⟨b, c⟩⟩ <;> rfl⟩
   cases hp
  ·exact aK
  ·intro pre x hlt
   have hx : 512 * x.val + 512 ≤ N := by have := x.isLt; omega
   have e1 := lM S' N x.val hx
   have e2 := bR S' x.val (by omega)
   have e3 : (N - 512 * x.val).min (512 - 0) = 512 := Nat.min_eq_right (by omega)
   match pre, hlt with
   |[], _ =>
    refine gob ?_
    refine ⟨1, ?_⟩
    refine EffG.mk (And.intro ?_ ?_)
    ·(repeat' (first | exact trivial | refine And.intro ?_ ?_)) <;> first | omega | exact Nat.le_refl _ | rfl | exact (congrArg List.length e1).trans e2 | decide
    refine gob ?_
    refine ⟨[0, 1, 2, 3, 4, 5, 6, 7, 8, 9, 13], aK (h3 := ?_)⟩
    (repeat' (first | exact trivial | refine And.intro ⟨_, rfl, rfl, ?_, id⟩ ?_ | refine And.intro ⟨_, rfl, rfl, ?_, fun _ => rfl⟩ ?_)) <;> first | rfl | exact (congrArg (fun d => D.node [d]) (mH e3 e1)).trans (Pure.ren (d := cQ [loF S' x.val]) _).symm
   |[w], _ =>
    have hw1 := bR S' w.val (by have := w.isLt; omega)
    refine gob ?_
    refine ⟨0, ?_⟩
    refine EffG.mk (And.intro ?_ ?_)
    ·(repeat' (first | exact trivial | refine And.intro ?_ ?_)) <;> first | omega | exact Nat.le_refl _ | rfl | exact (congrArg List.length e1).trans e2 | decide | exact (show (0 + 1 + 1) * 528 ≤ 140737488355328 by omega) | exact (show 0 + 1 + 1 < 9223372036854775808 by omega) | exact hw1 | exact (show 0 + (0 + 1) ≤ ((loF S' w.val :: ([] : List Lo)).map loD).length by rw [List.length_map, List.length_cons]; omega) | exact fG rfl (fun x hx => by simp at hx) e3 e1 e2
    refine gob ?_
    refine ⟨[0, 1, 2, 3, 4, 5, 6, 7, 8, 9, 13], aK (h3 := ?_)⟩
    (repeat' (first | exact trivial | refine And.intro ⟨_, rfl, rfl, ?_, id⟩ ?_ | refine And.intro ⟨_, rfl, rfl, ?_, fun _ => rfl⟩ ?_)) <;> first | rfl | exact (fF (l0 := loF S' w.val) (ls := ([] : List Lo)) rfl e3 e1).trans (Pure.ren (d := cQ ((loF S' w.val :: ([] : List Lo)) ++ [loF S' x.val])) _).symm
  ·intro xs hxs
   obtain ⟨x, y, rfl, hz, hy⟩ := aCg hxs
   refine gob ?_
   refine aI [0, 1, 2, 3, 4, 5, 6, 7, 10] (h3 := ?_)
   (repeat' (first | exact trivial | refine And.intro ⟨_, rfl, rfl, ?_, id⟩ ?_ | refine And.intro ⟨_, rfl, rfl, ?_, fun _ => rfl⟩ ?_)) <;> first | rfl | exact (Pure.ren _).symm | exact ((congrArg (fun u => cQ ([] ++ [loF S' u] ++ [loF S' y.val])) hz).trans (congrArg (fun v => cQ ([] ++ [loF S' q] ++ [loF S' v])) hy)).trans (Pure.ren _).symm
 ·rename_i l0 ls
  have hl2 : ls.length + 1 < 1000 := hl
  have hls1 := hls l0 (by simp)
  have hls2 : ∀ x ∈ ls, x.bytes.length = 512 := fun x hx => hls x (by simp [hx])
  refine gob ?_
  refine aA hlay [1, 7] ?_
  refine aA hsec [] ?_
  have hg := cC 8 9 (512 * q) 1024 q 2 (N / 512) (rw1 := true) (rw2 := true) (by omega) (by omega) (by rw [if_neg (by decide)]; omega) (by omega) (by omega) (by omega)
  refine RangeG.mk ⟨137, [.ptr 8 [], .ptr 9 []], [(8, ⟨.cell, .i64 (512 * q : Nat), true⟩), (9, ⟨.cell, .i64 (1024 : Nat), true⟩)], Fin (N / 512), fun x => .i64 (512 * x.val : Nat), fun ys => ys.map (·.val) = List.range' q 2, 2, 19, 3, 2, _,
   fun pre => match pre with
    |[] => [(0, some ⟨tDv, dvD most N cap N2 cap2 (.slice 3 [] 0 (ls.length + 1) none) st, true⟩), (1, some ⟨.row .cell, .u8s S', true⟩), (3, some ⟨.row tLo, cQ (l0 :: ls), true⟩), (4, some ⟨.cell, .ptr 0 [], true⟩), (5, some ⟨.cell, .i64 (512 * q : Nat), true⟩), (6, some ⟨.cell, .slice 7 [] o 1024 cap3, true⟩), (7, some ⟨.row .cell, .u8s B, false⟩), (8, some ⟨.cell, .i64 (512 * q : Nat), true⟩), (9, some ⟨.cell, .i64 (1024 : Nat), true⟩)]
    |[x] => [(0, some ⟨tDv, dvD most N cap N2 cap2 (.slice 10 [] 0 (ls.length + 1 + 1) none) st, true⟩), (1, some ⟨.row .cell, .u8s S', true⟩), (10, some ⟨.row tLo, cQ ((l0 :: ls) ++ [loF S' x.val]), true⟩), (4, some ⟨.cell, .ptr 0 [], true⟩), (5, some ⟨.cell, .i64 (512 * q : Nat), true⟩), (6, some ⟨.cell, .slice 7 [] o 1024 cap3, true⟩), (7, some ⟨.row .cell, .u8s B, false⟩), (8, some ⟨.cell, .i64 (512 * q : Nat), true⟩), (9, some ⟨.cell, .i64 (1024 : Nat), true⟩)]
    |x :: y :: _ => [(0, some ⟨tDv, dvD most N cap N2 cap2 (.slice 10 [] 0 (ls.length + 1 + 1 + 1) none) st, true⟩), (1, some ⟨.row .cell, .u8s S', true⟩), (10, some ⟨.row tLo, cQ ((l0 :: ls) ++ [loF S' x.val] ++ [loF S' y.val]), true⟩), (4, some ⟨.cell, .ptr 0 [], true⟩), (5, some ⟨.cell, .i64 (512 * q : Nat), true⟩), (6, some ⟨.cell, .slice 7 [] o 1024 cap3, true⟩), (7, some ⟨.row .cell, .u8s B, false⟩), (8, some ⟨.cell, .i64 (512 * q : Nat), true⟩), (9, some ⟨.cell, .i64 (1024 : Nat), true⟩)],
   11, [0, 1, 2, 3, 4, 5, 6, 7, 8, 9], rfl, hg, ⟨rfl, rfl, rfl, rfl, rfl, by decide, by decide⟩, ?_, ?_, ?_, ?_⟩
  ·intro p hp
   rcases List.mem_cons.1 hp with rfl | hp
   ·exact ⟨Nat.le_of_ble_eq_true rfl, rfl, fun pre => by rcases pre with _ | ⟨a, _ | ⟨b, c⟩⟩ <;> rfl⟩
   rcases List.mem_cons.1 hp with rfl | hp
   ·exact ⟨Nat.le_of_ble_eq_true rfl, rfl, fun pre => by rcases pre with _ | ⟨a, _ | ⟨b, c⟩⟩ <;> rfl⟩
   cases hp
  ·exact aK
  ·intro pre x hlt
   have hx : 512 * x.val + 512 ≤ N := by have := x.isLt; omega
   have e1 := lM S' N x.val hx
   have e2 := bR S' x.val (by omega)
   have e3 : (N - 512 * x.val).min (512 - 0) = 512 := Nat.min_eq_right (by omega)
   match pre, hlt with
   |[], _ =>
    refine gob ?_
    refine ⟨0, ?_⟩
    refine EffG.mk (And.intro ?_ ?_)
    ·(repeat' (first | exact trivial | refine And.intro ?_ ?_)) <;> first | omega | exact Nat.le_refl _ | rfl | exact (congrArg List.length e1).trans e2 | decide | exact (show (ls.length + 1 + 1) * 528 ≤ 140737488355328 by omega) | exact (show ls.length + 1 + 1 < 9223372036854775808 by omega) | exact hls1 | exact (show 0 + (ls.length + 1) ≤ ((l0 :: ls).map loD).length by rw [List.length_map, List.length_cons]; omega) | exact fG rfl hls2 e3 e1 e2
    refine gob ?_
    refine ⟨[0, 1, 2, 3, 4, 5, 6, 7, 8, 9, 13], aK (h3 := ?_)⟩
    (repeat' (first | exact trivial | refine And.intro ⟨_, rfl, rfl, ?_, id⟩ ?_ | refine And.intro ⟨_, rfl, rfl, ?_, fun _ => rfl⟩ ?_)) <;> first | rfl | exact (fF (l0 := l0) (ls := ls) rfl e3 e1).trans (Pure.ren (d := cQ ((l0 :: ls) ++ [loF S' x.val])) _).symm
   |[w], _ =>
    have hw2 : ∀ x ∈ ls ++ [loF S' w.val], x.bytes.length = 512 := fun x hx => by
     rcases List.mem_append.1 hx with h | h
     ·exact hls2 x h
     ·rw [List.mem_singleton.1 h]; exact bR S' w.val (by have := w.isLt; omega)
    have hwn : (ls ++ [loF S' w.val]).length = ls.length + 1 := by rw [List.length_append]; rfl
    refine gob ?_
    refine ⟨0, ?_⟩
    refine EffG.mk (And.intro ?_ ?_)
    ·(repeat' (first | exact trivial | refine And.intro ?_ ?_)) <;> first | omega | exact Nat.le_refl _ | rfl | exact (congrArg List.length e1).trans e2 | decide | exact (show ((ls.length + 1) + 1 + 1) * 528 ≤ 140737488355328 by omega) | exact (show (ls.length + 1) + 1 + 1 < 9223372036854775808 by omega) | exact hls1 | exact (show 0 + ((ls.length + 1) + 1) ≤ ((l0 :: (ls ++ [loF S' w.val])).map loD).length by rw [List.length_map, List.length_cons, hwn]; omega) | exact fG hwn hw2 e3 e1 e2
    refine gob ?_
    refine ⟨[0, 1, 2, 3, 4, 5, 6, 7, 8, 9, 13], aK (h3 := ?_)⟩
    (repeat' (first | exact trivial | refine And.intro ⟨_, rfl, rfl, ?_, id⟩ ?_ | refine And.intro ⟨_, rfl, rfl, ?_, fun _ => rfl⟩ ?_)) <;> first | rfl | exact (fF (l0 := l0) (ls := (ls ++ [loF S' w.val])) hwn e3 e1).trans (Pure.ren (d := cQ ((l0 :: (ls ++ [loF S' w.val])) ++ [loF S' x.val])) _).symm
  ·intro xs hxs
   obtain ⟨x, y, rfl, hz, hy⟩ := aCg hxs
   refine gob ?_
   refine aI [0, 1, 2, 3, 4, 5, 6, 7, 10] (h3 := ?_)
   (repeat' (first | exact trivial | refine And.intro ⟨_, rfl, rfl, ?_, id⟩ ?_ | refine And.intro ⟨_, rfl, rfl, ?_, fun _ => rfl⟩ ?_)) <;> first | rfl | exact (Pure.ren _).symm | exact ((congrArg (fun u => cQ ((l0 :: ls) ++ [loF S' u] ++ [loF S' y.val])) hz).trans (congrArg (fun v => cQ ((l0 :: ls) ++ [loF S' q] ++ [loF S' v])) hy)).trans (Pure.ren _).symm
set_option maxHeartbeats 2000000 in
theorem zC (hq : N < 512 * q + 512) (hB : o + 512 ≤ B.length) (hN : N < 4611686018427387904) (hp : 512 * q + 512 < 70368744177664) (hl : ls.length < 1000) :
  AC Tryz.prog 118 [.ptr 4 [], .ptr 5 [], .ptr 6 []] 8
   (cX 3 ls ++ [(0, some ⟨tDv, dvD most N cap N2 cap2 (dU 3 ls) st, true⟩), (1, some ⟨.row .cell, .u8s S, true⟩), (4, some ⟨.cell, .ptr 0 [], true⟩), (5, some ⟨.cell, .i64 (512 * q : Nat), true⟩), (6, some ⟨.cell, .slice 7 [] o 512 cap3, true⟩), (7, some ⟨.row .cell, .u8s B, false⟩)])
   ⟨.tup [], (cX 3 ls).map (fun p => (p.1, none)) ++ [(0, some (.node [.i64 most, .slice 8 [] 0 (512 * q + 512) none, .slice 2 [] 0 N2 cap2, .slice 9 [] 0 (ls.length + 1) none, .i64 st, .bool false, .nilptr])), (1, none)], [(.row .cell, .u8s (aV S ((B.drop o).take 512) (512 * q))), (.row tLo, cQ (ls ++ [loF (aV S ((B.drop o).take 512) (512 * q)) q]))]⟩ := by
 have hBl : ((B.drop o).take 512).length = 512 := by rw [List.length_take, List.length_drop]; omega
 have hlay := oX S B (512 * q) o 512 N cap cap3 hS hq hB (by decide) hp
 have hsec := iI (512 * q) 512 (by omega) (by decide)
 have hL : (aV S ((B.drop o).take 512) (512 * q)).length = (512 * q + 512) := by rw [aU, hBl]; omega
 generalize (aV S ((B.drop o).take 512) (512 * q)) = S' at hlay hL ⊢
 refine acA tab mix Tryz.func118 {} ?_
 cases ls
 ·refine gob ?_
  refine aA hlay [1, 7] ?_
  refine aA hsec [] ?_
  have hg := cC 9 10 (512 * q) 512 q 1 ((512 * q + 512) / 512) (rw1 := true) (rw2 := true) (by omega) (by omega) (by rw [if_neg (by decide)]; omega) (by omega) (by omega) (by omega)
  refine RangeG.mk ⟨137, [.ptr 9 [], .ptr 10 []], [(9, ⟨.cell, .i64 (512 * q : Nat), true⟩), (10, ⟨.cell, .i64 (512 : Nat), true⟩)], Fin ((512 * q + 512) / 512), fun x => .i64 (512 * x.val : Nat), fun ys => ys.map (·.val) = List.range' q 1, 1, 19, 3, 2, _,
   fun pre => match pre with
    |[] => [(0, some ⟨tDv, .node [.i64 most, .slice 8 [] 0 (512 * q + 512) none, .slice 2 [] 0 N2 cap2, .nilslice, .i64 st, .bool false, .nilptr], true⟩), (8, some ⟨.row .cell, .u8s S', true⟩), (4, some ⟨.cell, .ptr 0 [], true⟩), (5, some ⟨.cell, .i64 (512 * q : Nat), true⟩), (6, some ⟨.cell, .slice 7 [] o 512 cap3, true⟩), (7, some ⟨.row .cell, .u8s B, false⟩), (9, some ⟨.cell, .i64 (512 * q : Nat), true⟩), (10, some ⟨.cell, .i64 (512 : Nat), true⟩)]
    |x :: _ => [(0, some ⟨tDv, .node [.i64 most, .slice 8 [] 0 (512 * q + 512) none, .slice 2 [] 0 N2 cap2, .slice 11 [] 0 (1) none, .i64 st, .bool false, .nilptr], true⟩), (8, some ⟨.row .cell, .u8s S', true⟩), (11, some ⟨.row tLo, cQ ([] ++ [loF S' x.val]), true⟩), (4, some ⟨.cell, .ptr 0 [], true⟩), (5, some ⟨.cell, .i64 (512 * q : Nat), true⟩), (6, some ⟨.cell, .slice 7 [] o 512 cap3, true⟩), (7, some ⟨.row .cell, .u8s B, false⟩), (9, some ⟨.cell, .i64 (512 * q : Nat), true⟩), (10, some ⟨.cell, .i64 (512 : Nat), true⟩)],
   12, [0, 1, 2, 3, 4, 5, 6, 7, 8, 9, 10], rfl, hg, ⟨rfl, rfl, rfl, rfl, rfl, by decide, by decide⟩, ?_, ?_, ?_, ?_⟩
  ·intro p hp
   rcases List.mem_cons.1 hp with rfl | hp
   ·exact ⟨Nat.le_of_ble_eq_true rfl, rfl, fun pre => by cases pre <;> rfl⟩
   rcases List.mem_cons.1 hp with rfl | hp
   ·exact ⟨Nat.le_of_ble_eq_true rfl, rfl, fun pre => by cases pre <;> rfl⟩
   cases hp
  ·exact aK
  ·intro pre x hlt
   have hx : 512 * x.val + 512 ≤ (512 * q + 512) := by have := x.isLt; omega
   have e1 := lM S' (512 * q + 512) x.val hx
   have e2 := bR S' x.val (by omega)
   have e3 : ((512 * q + 512) - 512 * x.val).min (512 - 0) = 512 := Nat.min_eq_right (by omega)
   obtain rfl : pre = [] := by cases pre; rfl; simp at hlt
   refine gob ?_
   refine ⟨1, ?_⟩
   refine EffG.mk (And.intro ?_ ?_)
   ·(repeat' (first | exact trivial | refine And.intro ?_ ?_)) <;> first | omega | exact Nat.le_refl _ | rfl | exact (congrArg List.length e1).trans e2 | decide
   refine gob ?_
   refine ⟨[0, 1, 2, 3, 4, 5, 6, 7, 8, 9, 10, 14], aK (h3 := ?_)⟩
   (repeat' (first | exact trivial | refine And.intro ⟨_, rfl, rfl, ?_, id⟩ ?_ | refine And.intro ⟨_, rfl, rfl, ?_, fun _ => rfl⟩ ?_)) <;> first | rfl | exact (congrArg (fun d => D.node [d]) (mH e3 e1)).trans (Pure.ren (d := cQ [loF S' x.val]) _).symm
  ·intro xs hxs
   obtain ⟨x, rfl, hy⟩ := aDV hxs
   refine gob ?_
   refine aI [0, 1, 2, 3, 4, 5, 6, 7, 8, 11] (h3 := ?_)
   (repeat' (first | exact trivial | refine And.intro ⟨_, rfl, rfl, ?_, id⟩ ?_ | refine And.intro ⟨_, rfl, rfl, ?_, fun _ => rfl⟩ ?_)) <;> first | rfl | exact (Pure.ren _).symm | exact (congrArg (fun v => cQ ([] ++ [loF S' v])) hy).trans (Pure.ren _).symm
 ·rename_i l0 ls
  have hl2 : ls.length + 1 < 1000 := hl
  have hls1 := hls l0 (by simp)
  have hls2 : ∀ x ∈ ls, x.bytes.length = 512 := fun x hx => hls x (by simp [hx])
  refine gob ?_
  refine aA hlay [1, 7] ?_
  refine aA hsec [] ?_
  have hg := cC 9 10 (512 * q) 512 q 1 ((512 * q + 512) / 512) (rw1 := true) (rw2 := true) (by omega) (by omega) (by rw [if_neg (by decide)]; omega) (by omega) (by omega) (by omega)
  refine RangeG.mk ⟨137, [.ptr 9 [], .ptr 10 []], [(9, ⟨.cell, .i64 (512 * q : Nat), true⟩), (10, ⟨.cell, .i64 (512 : Nat), true⟩)], Fin ((512 * q + 512) / 512), fun x => .i64 (512 * x.val : Nat), fun ys => ys.map (·.val) = List.range' q 1, 1, 19, 3, 2, _,
   fun pre => match pre with
    |[] => [(0, some ⟨tDv, .node [.i64 most, .slice 8 [] 0 (512 * q + 512) none, .slice 2 [] 0 N2 cap2, .slice 3 [] 0 (ls.length + 1) none, .i64 st, .bool false, .nilptr], true⟩), (8, some ⟨.row .cell, .u8s S', true⟩), (3, some ⟨.row tLo, cQ (l0 :: ls), true⟩), (4, some ⟨.cell, .ptr 0 [], true⟩), (5, some ⟨.cell, .i64 (512 * q : Nat), true⟩), (6, some ⟨.cell, .slice 7 [] o 512 cap3, true⟩), (7, some ⟨.row .cell, .u8s B, false⟩), (9, some ⟨.cell, .i64 (512 * q : Nat), true⟩), (10, some ⟨.cell, .i64 (512 : Nat), true⟩)]
    |x :: _ => [(0, some ⟨tDv, .node [.i64 most, .slice 8 [] 0 (512 * q + 512) none, .slice 2 [] 0 N2 cap2, .slice 11 [] 0 (ls.length + 1 + 1) none, .i64 st, .bool false, .nilptr], true⟩), (8, some ⟨.row .cell, .u8s S', true⟩), (11, some ⟨.row tLo, cQ ((l0 :: ls) ++ [loF S' x.val]), true⟩), (4, some ⟨.cell, .ptr 0 [], true⟩), (5, some ⟨.cell, .i64 (512 * q : Nat), true⟩), (6, some ⟨.cell, .slice 7 [] o 512 cap3, true⟩), (7, some ⟨.row .cell, .u8s B, false⟩), (9, some ⟨.cell, .i64 (512 * q : Nat), true⟩), (10, some ⟨.cell, .i64 (512 : Nat), true⟩)],
   12, [0, 1, 2, 3, 4, 5, 6, 7, 8, 9, 10], rfl, hg, ⟨rfl, rfl, rfl, rfl, rfl, by decide, by decide⟩, ?_, ?_, ?_, ?_⟩
  ·intro p hp
   rcases List.mem_cons.1 hp with rfl | hp
   ·exact ⟨Nat.le_of_ble_eq_true rfl, rfl, fun pre => by cases pre <;> rfl⟩
   rcases List.mem_cons.1 hp with rfl | hp
   ·exact ⟨Nat.le_of_ble_eq_true rfl, rfl, fun pre => by cases pre <;> rfl⟩
   cases hp
  ·exact aK
  ·intro pre x hlt
   have hx : 512 * x.val + 512 ≤ (512 * q + 512) := by have := x.isLt; omega
   have e1 := lM S' (512 * q + 512) x.val hx
   have e2 := bR S' x.val (by omega)
   have e3 : ((512 * q + 512) - 512 * x.val).min (512 - 0) = 512 := Nat.min_eq_right (by omega)
   obtain rfl : pre = [] := by cases pre; rfl; simp at hlt
   refine gob ?_
   refine ⟨0, ?_⟩
   refine EffG.mk (And.intro ?_ ?_)
   ·(repeat' (first | exact trivial | refine And.intro ?_ ?_)) <;> first | omega | exact Nat.le_refl _ | rfl | exact (congrArg List.length e1).trans e2 | decide | exact (show (ls.length + 1 + 1) * 528 ≤ 140737488355328 by omega) | exact (show ls.length + 1 + 1 < 9223372036854775808 by omega) | exact hls1 | exact (show 0 + (ls.length + 1) ≤ ((l0 :: ls).map loD).length by rw [List.length_map, List.length_cons]; omega) | exact fG rfl hls2 e3 e1 e2
   refine gob ?_
   refine ⟨[0, 1, 2, 3, 4, 5, 6, 7, 8, 9, 10, 14], aK (h3 := ?_)⟩
   (repeat' (first | exact trivial | refine And.intro ⟨_, rfl, rfl, ?_, id⟩ ?_ | refine And.intro ⟨_, rfl, rfl, ?_, fun _ => rfl⟩ ?_)) <;> first | rfl | exact (fF (l0 := l0) (ls := ls) rfl e3 e1).trans (Pure.ren (d := cQ ((l0 :: ls) ++ [loF S' x.val])) _).symm
  ·intro xs hxs
   obtain ⟨x, rfl, hy⟩ := aDV hxs
   refine gob ?_
   refine aI [0, 1, 2, 3, 4, 5, 6, 7, 8, 11] (h3 := ?_)
   (repeat' (first | exact trivial | refine And.intro ⟨_, rfl, rfl, ?_, id⟩ ?_ | refine And.intro ⟨_, rfl, rfl, ?_, fun _ => rfl⟩ ?_)) <;> first | rfl | exact (Pure.ren _).symm | exact (congrArg (fun v => cQ ((l0 :: ls) ++ [loF S' v])) hy).trans (Pure.ren _).symm
set_option maxHeartbeats 2000000 in
theorem zA (hq : N < 512 * q + 1024) (hB : o + 1024 ≤ B.length) (hN : N < 4611686018427387904) (hp : 512 * q + 1024 < 70368744177664) (hl : ls.length < 1000) :
  AC Tryz.prog 118 [.ptr 4 [], .ptr 5 [], .ptr 6 []] 8
   (cX 3 ls ++ [(0, some ⟨tDv, dvD most N cap N2 cap2 (dU 3 ls) st, true⟩), (1, some ⟨.row .cell, .u8s S, true⟩), (4, some ⟨.cell, .ptr 0 [], true⟩), (5, some ⟨.cell, .i64 (512 * q : Nat), true⟩), (6, some ⟨.cell, .slice 7 [] o 1024 cap3, true⟩), (7, some ⟨.row .cell, .u8s B, false⟩)])
   ⟨.tup [], (cX 3 ls).map (fun p => (p.1, none)) ++ [(0, some (.node [.i64 most, .slice 8 [] 0 (512 * q + 1024) none, .slice 2 [] 0 N2 cap2, .slice 9 [] 0 (ls.length + 2) none, .i64 st, .bool false, .nilptr])), (1, none)], [(.row .cell, .u8s (aV S ((B.drop o).take 1024) (512 * q))), (.row tLo, cQ (ls ++ [loF (aV S ((B.drop o).take 1024) (512 * q)) q] ++ [loF (aV S ((B.drop o).take 1024) (512 * q)) (q + 1)]))]⟩ := by
 have hBl : ((B.drop o).take 1024).length = 1024 := by rw [List.length_take, List.length_drop]; omega
 have hlay := oX S B (512 * q) o 1024 N cap cap3 hS hq hB (by decide) hp
 have hsec := iI (512 * q) 1024 (by omega) (by decide)
 have hL : (aV S ((B.drop o).take 1024) (512 * q)).length = (512 * q + 1024) := by rw [aU, hBl]; omega
 generalize (aV S ((B.drop o).take 1024) (512 * q)) = S' at hlay hL ⊢
 refine acA tab mix Tryz.func118 {} ?_
 cases ls
 ·refine gob ?_
  refine aA hlay [1, 7] ?_
  refine aA hsec [] ?_
  have hg := cC 9 10 (512 * q) 1024 q 2 ((512 * q + 1024) / 512) (rw1 := true) (rw2 := true) (by omega) (by omega) (by rw [if_neg (by decide)]; omega) (by omega) (by omega) (by omega)
  refine RangeG.mk ⟨137, [.ptr 9 [], .ptr 10 []], [(9, ⟨.cell, .i64 (512 * q : Nat), true⟩), (10, ⟨.cell, .i64 (1024 : Nat), true⟩)], Fin ((512 * q + 1024) / 512), fun x => .i64 (512 * x.val : Nat), fun ys => ys.map (·.val) = List.range' q 2, 2, 19, 3, 2, _,
   fun pre => match pre with
    |[] => [(0, some ⟨tDv, .node [.i64 most, .slice 8 [] 0 (512 * q + 1024) none, .slice 2 [] 0 N2 cap2, .nilslice, .i64 st, .bool false, .nilptr], true⟩), (8, some ⟨.row .cell, .u8s S', true⟩), (4, some ⟨.cell, .ptr 0 [], true⟩), (5, some ⟨.cell, .i64 (512 * q : Nat), true⟩), (6, some ⟨.cell, .slice 7 [] o 1024 cap3, true⟩), (7, some ⟨.row .cell, .u8s B, false⟩), (9, some ⟨.cell, .i64 (512 * q : Nat), true⟩), (10, some ⟨.cell, .i64 (1024 : Nat), true⟩)]
    |[x] => [(0, some ⟨tDv, .node [.i64 most, .slice 8 [] 0 (512 * q + 1024) none, .slice 2 [] 0 N2 cap2, .slice 11 [] 0 (1) none, .i64 st, .bool false, .nilptr], true⟩), (8, some ⟨.row .cell, .u8s S', true⟩), (11, some ⟨.row tLo, cQ ([] ++ [loF S' x.val]), true⟩), (4, some ⟨.cell, .ptr 0 [], true⟩), (5, some ⟨.cell, .i64 (512 * q : Nat), true⟩), (6, some ⟨.cell, .slice 7 [] o 1024 cap3, true⟩), (7, some ⟨.row .cell, .u8s B, false⟩), (9, some ⟨.cell, .i64 (512 * q : Nat), true⟩), (10, some ⟨.cell, .i64 (1024 : Nat), true⟩)]
    |x :: y :: _ => [(0, some ⟨tDv, .node [.i64 most, .slice 8 [] 0 (512 * q + 1024) none, .slice 2 [] 0 N2 cap2, .slice 11 [] 0 (2) none, .i64 st, .bool false, .nilptr], true⟩), (8, some ⟨.row .cell, .u8s S', true⟩), (11, some ⟨.row tLo, cQ ([] ++ [loF S' x.val] ++ [loF S' y.val]), true⟩), (4, some ⟨.cell, .ptr 0 [], true⟩), (5, some ⟨.cell, .i64 (512 * q : Nat), true⟩), (6, some ⟨.cell, .slice 7 [] o 1024 cap3, true⟩), (7, some ⟨.row .cell, .u8s B, false⟩), (9, some ⟨.cell, .i64 (512 * q : Nat), true⟩), (10, some ⟨.cell, .i64 (1024 : Nat), true⟩)],
   12, [0, 1, 2, 3, 4, 5, 6, 7, 8, 9, 10], rfl, hg, ⟨rfl, rfl, rfl, rfl, rfl, by decide, by decide⟩, ?_, ?_, ?_, ?_⟩
  ·intro p hp
   rcases List.mem_cons.1 hp with rfl | hp
   ·exact ⟨Nat.le_of_ble_eq_true rfl, rfl, fun pre => by rcases pre with _ | ⟨a, _ | ⟨b, c⟩⟩ <;> rfl⟩
   rcases List.mem_cons.1 hp with rfl | hp
   ·exact ⟨Nat.le_of_ble_eq_true rfl, rfl, fun pre => by rcases pre with _ | ⟨a, _ | ⟨b, c⟩⟩ <;> rfl⟩
   cases hp
  ·exact aK
  ·intro pre x hlt
   have hx : 512 * x.val + 512 ≤ (512 * q + 1024) := by have := x.isLt; omega
   have e1 := lM S' (512 * q + 1024) x.val hx
   have e2 := bR S' x.val (by omega)
   have e3 : ((512 * q + 1024) - 512 * x.val).min (512 - 0) = 512 := Nat.min_eq_right (by omega)
   match pre, hlt with
   |[], _ =>
    refine gob ?_
    refine ⟨1, ?_⟩
    refine EffG.mk (And.intro ?_ ?_)
    ·(repeat' (first | exact trivial | refine And.intro ?_ ?_)) <;> first | omega | exact Nat.le_refl _ | rfl | exact (congrArg List.length e1).trans e2 | decide
    refine gob ?_
    refine ⟨[0, 1, 2, 3, 4, 5, 6, 7, 8, 9, 10, 14], aK (h3 := ?_)⟩
    (repeat' (first | exact trivial | refine And.intro ⟨_, rfl, rfl, ?_, id⟩ ?_ | refine And.intro ⟨_, rfl, rfl, ?_, fun _ => rfl⟩ ?_)) <;> first | rfl | exact (congrArg (fun d => D.node [d]) (mH e3 e1)).trans (Pure.ren (d := cQ [loF S' x.val]) _).symm
   |[w], _ =>
    have hw1 := bR S' w.val (by have := w.isLt; omega)
    refine gob ?_
    refine ⟨0, ?_⟩
    refine EffG.mk (And.intro ?_ ?_)
    ·(repeat' (first | exact trivial | refine And.intro ?_ ?_)) <;> first | omega | exact Nat.le_refl _ | rfl | exact (congrArg List.length e1).trans e2 | decide | exact (show (0 + 1 + 1) * 528 ≤ 140737488355328 by omega) | exact (show 0 + 1 + 1 < 9223372036854775808 by omega) | exact hw1 | exact (show 0 + (0 + 1) ≤ ((loF S' w.val :: ([] : List Lo)).map loD).length by rw [List.length_map, List.length_cons]; omega) | exact fG rfl (fun x hx => by simp at hx) e3 e1 e2
    refine gob ?_
    refine ⟨[0, 1, 2, 3, 4, 5, 6, 7, 8, 9, 10, 14], aK (h3 := ?_)⟩
    (repeat' (first | exact trivial | refine And.intro ⟨_, rfl, rfl, ?_, id⟩ ?_ | refine And.intro ⟨_, rfl, rfl, ?_, fun _ => rfl⟩ ?_)) <;> first | rfl | exact (fF (l0 := loF S' w.val) (ls := ([] : List Lo)) rfl e3 e1).trans (Pure.ren (d := cQ ((loF S' w.val :: ([] : List Lo)) ++ [loF S' x.val])) _).symm
  ·intro xs hxs
   obtain ⟨x, y, rfl, hz, hy⟩ := aCg hxs
   refine gob ?_
   refine aI [0, 1, 2, 3, 4, 5, 6, 7, 8, 11] (h3 := ?_)
   (repeat' (first | exact trivial | refine And.intro ⟨_, rfl, rfl, ?_, id⟩ ?_ | refine And.intro ⟨_, rfl, rfl, ?_, fun _ => rfl⟩ ?_)) <;> first | rfl | exact (Pure.ren _).symm | exact ((congrArg (fun u => cQ ([] ++ [loF S' u] ++ [loF S' y.val])) hz).trans (congrArg (fun v => cQ ([] ++ [loF S' q] ++ [loF S' v])) hy)).trans (Pure.ren _).symm
 ·rename_i l0 ls
  have hl2 : ls.length + 1 < 1000 := hl
  have hls1 := hls l0 (by simp)
  have hls2 : ∀ x ∈ ls, x.bytes.length = 512 := fun x hx => hls x (by simp [hx])
  refine gob ?_
  refine aA hlay [1, 7] ?_
  refine aA hsec [] ?_
  have hg := cC 9 10 (512 * q) 1024 q 2 ((512 * q + 1024) / 512) (rw1 := true) (rw2 := true) (by omega) (by omega) (by rw [if_neg (by decide)]; omega) (by omega) (by omega) (by omega)
  refine RangeG.mk ⟨137, [.ptr 9 [], .ptr 10 []], [(9, ⟨.cell, .i64 (512 * q : Nat), true⟩), (10, ⟨.cell, .i64 (1024 : Nat), true⟩)], Fin ((512 * q + 1024) / 512), fun x => .i64 (512 * x.val : Nat), fun ys => ys.map (·.val) = List.range' q 2, 2, 19, 3, 2, _,
   fun pre => match pre with
    |[] => [(0, some ⟨tDv, .node [.i64 most, .slice 8 [] 0 (512 * q + 1024) none, .slice 2 [] 0 N2 cap2, .slice 3 [] 0 (ls.length + 1) none, .i64 st, .bool false, .nilptr], true⟩), (8, some ⟨.row .cell, .u8s S', true⟩), (3, some ⟨.row tLo, cQ (l0 :: ls), true⟩), (4, some ⟨.cell, .ptr 0 [], true⟩), (5, some ⟨.cell, .i64 (512 * q : Nat), true⟩), (6, some ⟨.cell, .slice 7 [] o 1024 cap3, true⟩), (7, some ⟨.row .cell, .u8s B, false⟩), (9, some ⟨.cell, .i64 (512 * q : Nat), true⟩), (10, some ⟨.cell, .i64 (1024 : Nat), true⟩)]
    |[x] => [(0, some ⟨tDv, .node [.i64 most, .slice 8 [] 0 (512 * q + 1024) none, .slice 2 [] 0 N2 cap2, .slice 11 [] 0 (ls.length + 1 + 1) none, .i64 st, .bool false, .nilptr], true⟩), (8, some ⟨.row .cell, .u8s S', true⟩), (11, some ⟨.row tLo, cQ ((l0 :: ls) ++ [loF S' x.val]), true⟩), (4, some ⟨.cell, .ptr 0 [], true⟩), (5, some ⟨.cell, .i64 (512 * q : Nat), true⟩), (6, some ⟨.cell, .slice 7 [] o 1024 cap3, true⟩), (7, some ⟨.row .cell, .u8s B, false⟩), (9, some ⟨.cell, .i64 (512 * q : Nat), true⟩), (10, some ⟨.cell, .i64 (1024 : Nat), true⟩)]
    |x :: y :: _ => [(0, some ⟨tDv, .node [.i64 most, .slice 8 [] 0 (512 * q + 1024) none, .slice 2 [] 0 N2 cap2, .slice 11 [] 0 (ls.length + 1 + 1 + 1) none, .i64 st, .bool false, .nilptr], true⟩), (8, some ⟨.row .cell, .u8s S', true⟩), (11, some ⟨.row tLo, cQ ((l0 :: ls) ++ [loF S' x.val] ++ [loF S' y.val]), true⟩), (4, some ⟨.cell, .ptr 0 [], true⟩), (5, some ⟨.cell, .i64 (512 * q : Nat), true⟩), (6, some ⟨.cell, .slice 7 [] o 1024 cap3, true⟩), (7, some ⟨.row .cell, .u8s B, false⟩), (9, some ⟨.cell, .i64 (512 * q : Nat), true⟩), (10, some ⟨.cell, .i64 (1024 : Nat), true⟩)],
   12, [0, 1, 2, 3, 4, 5, 6, 7, 8, 9, 10], rfl, hg, ⟨rfl, rfl, rfl, rfl, rfl, by decide, by decide⟩, ?_, ?_, ?_, ?_⟩
  ·intro p hp
   rcases List.mem_cons.1 hp with rfl | hp
   ·exact ⟨Nat.le_of_ble_eq_true rfl, rfl, fun pre => by rcases pre with _ | ⟨a, _ | ⟨b, c⟩⟩ <;> rfl⟩
   rcases List.mem_cons.1 hp with rfl | hp
   ·exact ⟨Nat.le_of_ble_eq_true rfl, rfl, fun pre => by rcases pre with _ | ⟨a, _ | ⟨b, c⟩⟩ <;> rfl⟩
   cases hp
  ·exact aK
  ·intro pre x hlt
   have hx : 512 * x.val + 512 ≤ (512 * q + 1024) := by have := x.isLt; omega
   have e1 := lM S' (512 * q + 1024) x.val hx
   have e2 := bR S' x.val (by omega)
   have e3 : ((512 * q + 1024) - 512 * x.val).min (512 - 0) = 512 := Nat.min_eq_right (by omega)
   match pre, hlt with
   |[], _ =>
    refine gob ?_
    refine ⟨0, ?_⟩
    refine EffG.mk (And.intro ?_ ?_)
    ·(repeat' (first | exact trivial | refine And.intro ?_ ?_)) <;> first | omega | exact Nat.le_refl _ | rfl | exact (congrArg List.length e1).trans e2 | decide | exact (show (ls.length + 1 + 1) * 528 ≤ 140737488355328 by omega) | exact (show ls.length + 1 + 1 < 9223372036854775808 by omega) | exact hls1 | exact (show 0 + (ls.length + 1) ≤ ((l0 :: ls).map loD).length by rw [List.length_map, List.length_cons]; omega) | exact fG rfl hls2 e3 e1 e2
    refine gob ?_
    refine ⟨[0, 1, 2, 3, 4, 5, 6, 7, 8, 9, 10, 14], aK (h3 := ?_)⟩
    (repeat' (first | exact trivial | refine And.intro ⟨_, rfl, rfl, ?_, id⟩ ?_ | refine And.intro ⟨_, rfl, rfl, ?_, fun _ => rfl⟩ ?_)) <;> first | rfl | exact (fF (l0 := l0) (ls := ls) rfl e3 e1).trans (Pure.ren (d := cQ ((l0 :: ls) ++ [loF S' x.val])) _).symm
   |[w], _ =>
    have hw2 : ∀ x ∈ ls ++ [loF S' w.val], x.bytes.length = 512 := fun x hx => by
     rcases List.mem_append.1 hx with h | h
     ·exact hls2 x h
     ·rw [List.mem_singleton.1 h]; exact bR S' w.val (by have := w.isLt; omega)
    have hwn : (ls ++ [loF S' w.val]).length = ls.length + 1 := by rw [List.length_append]; rfl
    refine gob ?_
    refine ⟨0, ?_⟩
    refine EffG.mk (And.intro ?_ ?_)
    ·(repeat' (first | exact trivial | refine And.intro ?_ ?_)) <;> first | omega | exact Nat.le_refl _ | rfl | exact (congrArg List.length e1).trans e2 | decide | exact (show ((ls.length + 1) + 1 + 1) * 528 ≤ 140737488355328 by omega) | exact (show (ls.length + 1) + 1 + 1 < 9223372036854775808 by omega) | exact hls1 | exact (show 0 + ((ls.length + 1) + 1) ≤ ((l0 :: (ls ++ [loF S' w.val])).map loD).length by rw [List.length_map, List.length_cons, hwn]; omega) | exact fG hwn hw2 e3 e1 e2
    refine gob ?_
    refine ⟨[0, 1, 2, 3, 4, 5, 6, 7, 8, 9, 10, 14], aK (h3 := ?_)⟩
    (repeat' (first | exact trivial | refine And.intro ⟨_, rfl, rfl, ?_, id⟩ ?_ | refine And.intro ⟨_, rfl, rfl, ?_, fun _ => rfl⟩ ?_)) <;> first | rfl | exact (fF (l0 := l0) (ls := (ls ++ [loF S' w.val])) hwn e3 e1).trans (Pure.ren (d := cQ ((l0 :: (ls ++ [loF S' w.val])) ++ [loF S' x.val])) _).symm
  ·intro xs hxs
   obtain ⟨x, y, rfl, hz, hy⟩ := aCg hxs
   refine gob ?_
   refine aI [0, 1, 2, 3, 4, 5, 6, 7, 8, 11] (h3 := ?_)
   (repeat' (first | exact trivial | refine And.intro ⟨_, rfl, rfl, ?_, id⟩ ?_ | refine And.intro ⟨_, rfl, rfl, ?_, fun _ => rfl⟩ ?_)) <;> first | rfl | exact (Pure.ren _).symm | exact ((congrArg (fun u => cQ ((l0 :: ls) ++ [loF S' u] ++ [loF S' y.val])) hz).trans (congrArg (fun v => cQ ((l0 :: ls) ++ [loF S' q] ++ [loF S' v])) hy)).trans (Pure.ren _).symm
end
section
variable (most N : Nat) (cap : Option Nat) (N2 : Nat) (cap2 : Option Nat) (ls : List Lo) (hls : ∀ x ∈ ls, x.bytes.length = 512) (st q o : Nat) (cap3 : Option Nat) (S B : B8) (hS : S.length = N)
include most N cap N2 cap2 ls hls st q o cap3 S B hS
section
variable (hq : 512 * q + 512 ≤ N) (hB : o + 512 ≤ B.length)
include hq hB
theorem aDw (hN : N < 4611686018427387904) (hp : 512 * q + 512 < 70368744177664) (hl : ls.length < 1000) (hst : st < 1000) :
  AC Tryz.prog 61 [.ptr 0 [], .fn 118 [] [.ptr 4 [], .ptr 5 [], .ptr 6 []]] 8
   (cX 3 ls ++ [(0, some ⟨tDv, dvD most N cap N2 cap2 (dU 3 ls) st, true⟩), (1, some ⟨.row .cell, .u8s S, true⟩), (4, some ⟨.cell, .ptr 0 [], true⟩), (5, some ⟨.cell, .i64 (512 * q : Nat), true⟩), (6, some ⟨.cell, .slice 7 [] o 512 cap3, true⟩), (7, some ⟨.row .cell, .u8s B, false⟩)])
   ⟨.i64 0, (cX 3 ls).map (fun p => (p.1, none)) ++ [(0, some (dvD most N cap N2 cap2 (.slice 8 [] 0 (ls.length + 1) none) (st + 1))), (1, some (.u8s (aV S ((B.drop o).take 512) (512 * q))))], [(.row tLo, cQ (ls ++ [loF (aV S ((B.drop o).take 512) (512 * q)) q]))]⟩ := by
 have hw := zE most N cap N2 cap2 ls hls (st + 1) q o cap3 S B hS hq hB hN hp hl
 generalize aV S ((B.drop o).take 512) (512 * q) = S' at hw ⊢
 refine acA tab mix Tryz.func61 {} ?_
 cases ls
 all_goals
  refine gob ?_
  refine aA hw [0, 1, 2, 3, 4, 5, 6, 7] ?_
  refine aI [0, 1, 2, 3, 4, 5, 6, 7, 8]
theorem aBB (hN : N ≤ most) (hm : most ≤ 16777216) (hl : ls.length < 1000) (hst : st < 1000) :
  AC Tryz.prog 78 [.ptr 0 [], .i64 (512 * q : Nat), .slice 4 [] o 512 cap3] 5
   (cX 3 ls ++ [(0, some ⟨tDv, dvD most N cap N2 cap2 (dU 3 ls) st, true⟩), (1, some ⟨.row .cell, .u8s S, true⟩), (4, some ⟨.row .cell, .u8s B, false⟩)])
   ⟨.i64 0, (cX 3 ls).map (fun p => (p.1, none)) ++ [(0, some (dvD most N cap N2 cap2 (.slice 5 [] 0 (ls.length + 1) none) (st + 1))), (1, some (.u8s (aV S ((B.drop o).take 512) (512 * q))))], [(.row tLo, cQ (ls ++ [loF (aV S ((B.drop o).take 512) (512 * q)) q]))]⟩ := by
 have hw := aDw most N cap N2 cap2 ls hls st q o cap3 S B hS hq hB (by omega) (by omega) hl hst
 have hu := uC most N cap N2 cap2 ls st
 generalize aV S ((B.drop o).take 512) (512 * q) = S' at hw ⊢
 refine acA tab mix Tryz.func78 {} ?_
 cases ls
 all_goals
  refine gob ?_
  refine aA hu [0, 1, 2, 3] ?_
  refine aA hw [0, 1, 2, 3, 5, 6, 7, 4] ?_
  refine aI [0, 1, 2, 3, 4, 8]
end
section
variable (hq : 512 * q + 1024 ≤ N) (hB : o + 1024 ≤ B.length)
include hq hB
theorem aDv (hN : N < 4611686018427387904) (hp : 512 * q + 1024 < 70368744177664) (hl : ls.length < 1000) (hst : st < 1000) :
  AC Tryz.prog 61 [.ptr 0 [], .fn 118 [] [.ptr 4 [], .ptr 5 [], .ptr 6 []]] 8
   (cX 3 ls ++ [(0, some ⟨tDv, dvD most N cap N2 cap2 (dU 3 ls) st, true⟩), (1, some ⟨.row .cell, .u8s S, true⟩), (4, some ⟨.cell, .ptr 0 [], true⟩), (5, some ⟨.cell, .i64 (512 * q : Nat), true⟩), (6, some ⟨.cell, .slice 7 [] o 1024 cap3, true⟩), (7, some ⟨.row .cell, .u8s B, false⟩)])
   ⟨.i64 0, (cX 3 ls).map (fun p => (p.1, none)) ++ [(0, some (dvD most N cap N2 cap2 (.slice 8 [] 0 (ls.length + 2) none) (st + 1))), (1, some (.u8s (aV S ((B.drop o).take 1024) (512 * q))))], [(.row tLo, cQ (ls ++ [loF (aV S ((B.drop o).take 1024) (512 * q)) q] ++ [loF (aV S ((B.drop o).take 1024) (512 * q)) (q + 1)]))]⟩ := by
 have hw := zD most N cap N2 cap2 ls hls (st + 1) q o cap3 S B hS hq hB hN hp hl
 generalize aV S ((B.drop o).take 1024) (512 * q) = S' at hw ⊢
 refine acA tab mix Tryz.func61 {} ?_
 cases ls
 all_goals
  refine gob ?_
  refine aA hw [0, 1, 2, 3, 4, 5, 6, 7] ?_
  refine aI [0, 1, 2, 3, 4, 5, 6, 7, 8]
theorem aBA (hN : N ≤ most) (hm : most ≤ 16777216) (hl : ls.length < 1000) (hst : st < 1000) :
  AC Tryz.prog 78 [.ptr 0 [], .i64 (512 * q : Nat), .slice 4 [] o 1024 cap3] 5
   (cX 3 ls ++ [(0, some ⟨tDv, dvD most N cap N2 cap2 (dU 3 ls) st, true⟩), (1, some ⟨.row .cell, .u8s S, true⟩), (4, some ⟨.row .cell, .u8s B, false⟩)])
   ⟨.i64 0, (cX 3 ls).map (fun p => (p.1, none)) ++ [(0, some (dvD most N cap N2 cap2 (.slice 5 [] 0 (ls.length + 2) none) (st + 1))), (1, some (.u8s (aV S ((B.drop o).take 1024) (512 * q))))], [(.row tLo, cQ (ls ++ [loF (aV S ((B.drop o).take 1024) (512 * q)) q] ++ [loF (aV S ((B.drop o).take 1024) (512 * q)) (q + 1)]))]⟩ := by
 have hw := aDv most N cap N2 cap2 ls hls st q o cap3 S B hS hq hB (by omega) (by omega) hl hst
 have hu := uC most N cap N2 cap2 ls st
 generalize aV S ((B.drop o).take 1024) (512 * q) = S' at hw ⊢
 refine acA tab mix Tryz.func78 {} ?_
 cases ls
 all_goals
  refine gob ?_
  refine aA hu [0, 1, 2, 3] ?_
  refine aA hw [0, 1, 2, 3, 5, 6, 7, 4] ?_
  refine aI [0, 1, 2, 3, 4, 8]
end
section
variable (hq : N < 512 * q + 512) (hB : o + 512 ≤ B.length)
include hq hB
theorem aDu (hN : N < 4611686018427387904) (hp : 512 * q + 512 < 70368744177664) (hl : ls.length < 1000) (hst : st < 1000) :
  AC Tryz.prog 61 [.ptr 0 [], .fn 118 [] [.ptr 4 [], .ptr 5 [], .ptr 6 []]] 8
   (cX 3 ls ++ [(0, some ⟨tDv, dvD most N cap N2 cap2 (dU 3 ls) st, true⟩), (1, some ⟨.row .cell, .u8s S, true⟩), (4, some ⟨.cell, .ptr 0 [], true⟩), (5, some ⟨.cell, .i64 (512 * q : Nat), true⟩), (6, some ⟨.cell, .slice 7 [] o 512 cap3, true⟩), (7, some ⟨.row .cell, .u8s B, false⟩)])
   ⟨.i64 0, (cX 3 ls).map (fun p => (p.1, none)) ++ [(0, some (.node [.i64 most, .slice 8 [] 0 (512 * q + 512) none, .slice 2 [] 0 N2 cap2, .slice 9 [] 0 (ls.length + 1) none, .i64 (st + 1), .bool false, .nilptr])), (1, none)], [(.row .cell, .u8s (aV S ((B.drop o).take 512) (512 * q))), (.row tLo, cQ (ls ++ [loF (aV S ((B.drop o).take 512) (512 * q)) q]))]⟩ := by
 have hw := zC most N cap N2 cap2 ls hls (st + 1) q o cap3 S B hS hq hB hN hp hl
 generalize aV S ((B.drop o).take 512) (512 * q) = S' at hw ⊢
 refine acA tab mix Tryz.func61 {} ?_
 cases ls
 all_goals
  refine gob ?_
  refine aA hw [0, 1, 2, 3, 4, 5, 6, 7] ?_
  refine aI [0, 1, 2, 3, 4, 5, 6, 7, 8, 9]
theorem aAz (hN : N ≤ most) (hm : most ≤ 16777216) (hp : 512 * q ≤ N) (hf : 512 * q + 512 ≤ most) (hl : ls.length < 1000) (hst : st < 1000) :
  AC Tryz.prog 78 [.ptr 0 [], .i64 (512 * q : Nat), .slice 4 [] o 512 cap3] 5
   (cX 3 ls ++ [(0, some ⟨tDv, dvD most N cap N2 cap2 (dU 3 ls) st, true⟩), (1, some ⟨.row .cell, .u8s S, true⟩), (4, some ⟨.row .cell, .u8s B, false⟩)])
   ⟨.i64 0, (cX 3 ls).map (fun p => (p.1, none)) ++ [(0, some (.node [.i64 most, .slice 5 [] 0 (512 * q + 512) none, .slice 2 [] 0 N2 cap2, .slice 6 [] 0 (ls.length + 1) none, .i64 (st + 1), .bool false, .nilptr])), (1, none)], [(.row .cell, .u8s (aV S ((B.drop o).take 512) (512 * q))), (.row tLo, cQ (ls ++ [loF (aV S ((B.drop o).take 512) (512 * q)) q]))]⟩ := by
 have hw := aDu most N cap N2 cap2 ls hls st q o cap3 S B hS hq hB (by omega) (by omega) hl hst
 have hu := uC most N cap N2 cap2 ls st
 generalize aV S ((B.drop o).take 512) (512 * q) = S' at hw ⊢
 refine acA tab mix Tryz.func78 {} ?_
 cases ls
 all_goals
  refine gob ?_
  refine aA hu [0, 1, 2, 3] ?_
  refine aA hw [0, 1, 2, 3, 5, 6, 7, 4] ?_
  refine aI [0, 1, 2, 3, 4, 8, 9]
end
section
variable (hq : N < 512 * q + 1024) (hB : o + 1024 ≤ B.length)
include hq hB
theorem aDt (hN : N < 4611686018427387904) (hp : 512 * q + 1024 < 70368744177664) (hl : ls.length < 1000) (hst : st < 1000) :
  AC Tryz.prog 61 [.ptr 0 [], .fn 118 [] [.ptr 4 [], .ptr 5 [], .ptr 6 []]] 8
   (cX 3 ls ++ [(0, some ⟨tDv, dvD most N cap N2 cap2 (dU 3 ls) st, true⟩), (1, some ⟨.row .cell, .u8s S, true⟩), (4, some ⟨.cell, .ptr 0 [], true⟩), (5, some ⟨.cell, .i64 (512 * q : Nat), true⟩), (6, some ⟨.cell, .slice 7 [] o 1024 cap3, true⟩), (7, some ⟨.row .cell, .u8s B, false⟩)])
   ⟨.i64 0, (cX 3 ls).map (fun p => (p.1, none)) ++ [(0, some (.node [.i64 most, .slice 8 [] 0 (512 * q + 1024) none, .slice 2 [] 0 N2 cap2, .slice 9 [] 0 (ls.length + 2) none, .i64 (st + 1), .bool false, .nilptr])), (1, none)], [(.row .cell, .u8s (aV S ((B.drop o).take 1024) (512 * q))), (.row tLo, cQ (ls ++ [loF (aV S ((B.drop o).take 1024) (512 * q)) q] ++ [loF (aV S ((B.drop o).take 1024) (512 * q)) (q + 1)]))]⟩ := by
 have hw := zA most N cap N2 cap2 ls hls (st + 1) q o cap3 S B hS hq hB hN hp hl
 generalize aV S ((B.drop o).take 1024) (512 * q) = S' at hw ⊢
 refine acA tab mix Tryz.func61 {} ?_
 cases ls
 all_goals
  refine gob ?_
  refine aA hw [0, 1, 2, 3, 4, 5, 6, 7] ?_
  refine aI [0, 1, 2, 3, 4, 5, 6, 7, 8, 9]
theorem aAy (hN : N ≤ most) (hm : most ≤ 16777216) (hp : 512 * q ≤ N) (hf : 512 * q + 1024 ≤ most) (hl : ls.length < 1000) (hst : st < 1000) :
  AC Tryz.prog 78 [.ptr 0 [], .i64 (512 * q : Nat), .slice 4 [] o 1024 cap3] 5
   (cX 3 ls ++ [(0, some ⟨tDv, dvD most N cap N2 cap2 (dU 3 ls) st, true⟩), (1, some ⟨.row .cell, .u8s S, true⟩), (4, some ⟨.row .cell, .u8s B, false⟩)])
   ⟨.i64 0, (cX 3 ls).map (fun p => (p.1, none)) ++ [(0, some (.node [.i64 most, .slice 5 [] 0 (512 * q + 1024) none, .slice 2 [] 0 N2 cap2, .slice 6 [] 0 (ls.length + 2) none, .i64 (st + 1), .bool false, .nilptr])), (1, none)], [(.row .cell, .u8s (aV S ((B.drop o).take 1024) (512 * q))), (.row tLo, cQ (ls ++ [loF (aV S ((B.drop o).take 1024) (512 * q)) q] ++ [loF (aV S ((B.drop o).take 1024) (512 * q)) (q + 1)]))]⟩ := by
 have hw := aDt most N cap N2 cap2 ls hls st q o cap3 S B hS hq hB (by omega) (by omega) hl hst
 have hu := uC most N cap N2 cap2 ls st
 generalize aV S ((B.drop o).take 1024) (512 * q) = S' at hw ⊢
 refine acA tab mix Tryz.func78 {} ?_
 cases ls
 all_goals
  refine gob ?_
  refine aA hu [0, 1, 2, 3] ?_
  refine aA hw [0, 1, 2, 3, 5, 6, 7, 4] ?_
  refine aI [0, 1, 2, 3, 4, 8, 9]
end
end
section
variable (most N : Nat) (cap : Option Nat) (N2 : Nat) (cap2 : Option Nat) (ls : List Lo) (st p o k : Nat) (cap3 : Option Nat)
include most N cap N2 cap2 ls st p o k cap3
theorem o8 (hq : N < p) (hN : N < 4611686018427387904) (hp : p < 4611686018427387904) :
  AC Tryz.prog 78 [.ptr 0 [], .i64 p, .slice 4 [] o k cap3] 5
   (cX 3 ls ++ [(0, some ⟨tDv, dvD most N cap N2 cap2 (dU 3 ls) st, true⟩)])
   ⟨.i64 43, [], []⟩ := by
 have hu := uC most N cap N2 cap2 ls st
 refine acA tab mix Tryz.func78 {} ?_
 cases ls
 all_goals
  refine gob ?_
  refine aA hu [0, 1, 2, 3] ?_
  refine aI [0, 1, 2, 3, 4]
theorem o9 (hq : p ≤ N) (hf : most < p + k) (hN : N ≤ most) (hm : most ≤ 16777216) (hk : k < 4611686018427387904) :
  AC Tryz.prog 78 [.ptr 0 [], .i64 p, .slice 4 [] o k cap3] 5
   (cX 3 ls ++ [(0, some ⟨tDv, dvD most N cap N2 cap2 (dU 3 ls) st, true⟩)])
   ⟨.i64 21, [], []⟩ := by
 have hu := uC most N cap N2 cap2 ls st
 refine acA tab mix Tryz.func78 {} ?_
 cases ls
 all_goals
  refine gob ?_
  refine aA hu [0, 1, 2, 3] ?_
  refine aI [0, 1, 2, 3, 4]
end
abbrev rdM (bs : B8) (o len : Nat) (cap : Option Nat) : Mem := [(0, some ⟨.row .cell, .u8s bs, false⟩), (1, some ⟨tRd, .node [.slice 0 [] o len cap, .i64 0], true⟩)]
abbrev rdN (o len n : Nat) (cap : Option Nat) : List (Nat × Option D) := [(1, some (.node [.slice 0 [] (o + n) (len - n) (cap.map (· - n)), .i64 0]))]
theorem aCx (bs : B8) (o n len : Nat) (cap : Option Nat) (h : n ≤ len) :
  AC Tryz.prog 129 [.ptr 1 [], .i64 n] 2 (rdM bs o len cap) ⟨.slice 0 [] o n (some n), rdN o len n cap, []⟩ := by
 refine acA tab mix Tryz.func129 {} ?_
 refine gob ?_
 refine aI [0, 1]
theorem aH2 (bs : B8) (o len : Nat) (cap : Option Nat) :
  AC Tryz.prog 94 [.slice 0 [] o len cap] 1 [(0, some ⟨.row .cell, .u8s bs, false⟩)] ⟨.ptr 1 [], [], [(tRd, .node [.slice 0 [] o len cap, .i64 0])]⟩ := by
 refine acA tab mix Tryz.func94 {} ?_
 refine gob ?_
 refine aI [0, 1]
theorem jQ (bs : B8) (o n len : Nat) (cap : Option Nat) (h : n ≤ len) (hb : o + len ≤ bs.length) (hk : n ≤ 70368744177664) :
  AC Tryz.prog 96 [.ptr 1 [], .i64 n] 2 (rdM bs o len cap) ⟨.slice 2 [] 0 n none, rdN o len n cap, [(.row .cell, .u8s ((bs.drop o).take n))]⟩ := by
 have hn := aCx bs o n len cap h
 have hc := lF bs o n (some n) (by omega) hk
 refine acA tab mix Tryz.func96 {} ?_
 refine gob ?_
 refine aA hn [0, 1] ?_
 refine aA hc [0] ?_
 refine aI [0, 1, 2]
def u4G (bs : B8) (o : Nat) : BitVec 32 :=
 ((((((0 : BitVec 64) <<< (8 : Nat) ||| (bs.getD o 0).setWidth 64) <<< (8 : Nat) ||| (bs.getD (o + 1) 0).setWidth 64) <<< (8 : Nat) ||| (bs.getD (o + 1 + 1) 0).setWidth 64) <<< (8 : Nat) ||| (bs.getD (o + 1 + 1 + 1) 0).setWidth 64)).setWidth 32
section
variable (bs : B8) (o len : Nat) (cap : Option Nat)
include bs o len cap
section
variable (h : 4 ≤ len) (hb : o + len ≤ bs.length)
include h hb
theorem aER :
  AC Tryz.prog 128 [.ptr 1 [], .i64 4] 2 (rdM bs o len cap) ⟨.u64 ((((((0 : BitVec 64) <<< (8 : Nat) ||| (bs.getD o 0).setWidth 64) <<< (8 : Nat) ||| (bs.getD (o + 1) 0).setWidth 64) <<< (8 : Nat) ||| (bs.getD (o + 1 + 1) 0).setWidth 64) <<< (8 : Nat) ||| (bs.getD (o + 1 + 1 + 1) 0).setWidth 64)), rdN o len 4 cap, []⟩ := by
 have hn := aCx bs o 4 len cap h
 refine acA tab mix Tryz.func128 ⟨[], [4]⟩ ?_
 refine gob ?_
 refine aA hn [0, 1] ?_
 refine oI 5 ?_
 refine gob ?_
 refine aI [0, 1]
theorem jT :
  AC Tryz.prog 95 [.ptr 1 []] 2 (rdM bs o len cap) ⟨.u32 (u4G bs o), rdN o len 4 cap, []⟩ := by
 have hn := aER bs o len cap h hb
 unfold u4G
 generalize ((((((0 : BitVec 64) <<< (8 : Nat) ||| (bs.getD o 0).setWidth 64) <<< (8 : Nat) ||| (bs.getD (o + 1) 0).setWidth 64) <<< (8 : Nat) ||| (bs.getD (o + 1 + 1) 0).setWidth 64) <<< (8 : Nat) ||| (bs.getD (o + 1 + 1 + 1) 0).setWidth 64) : BitVec 64) = y at hn ⊢
 refine acA tab mix Tryz.func95 {} ?_
 refine gob ?_
 refine aA hn [0, 1] ?_
 refine aI [0, 1]
end
theorem aHX :
  AC Tryz.prog 98 [.ptr 1 []] 2 [(1, some ⟨tRd, .node [.slice 0 [] o len cap, .i64 0], false⟩)] ⟨.i64 len, [], []⟩ := by
 refine acA tab mix Tryz.func98 {} ?_
 refine gob ?_
 refine aI [0, 1]
theorem aJT :
  AC Tryz.prog 97 [.ptr 1 []] 2 [(1, some ⟨tRd, .node [.slice 0 [] o len cap, .i64 0], false⟩)] ⟨.i64 0, [], []⟩ := by
 refine acA tab mix Tryz.func97 {} ?_
 refine gob ?_
 refine aI [0, 1]
end
theorem vY (c : BitVec 8) : AC Tryz.prog 100 [.u8 c] 0 [] ⟨.bool (!decide (c = 0)), [], []⟩ := by
 refine acA tab mix Tryz.func100 {} ?_
 refine gob ?_
 refine aI []
theorem aGZ (bs : B8) (o k : Nat) (cap : Option Nat) (hb : o + k ≤ bs.length) (hk : k < 4611686018427387904) (h : ∀ i, i < k → bs.getD (o + i) 0 = 0) :
  AC Tryz.prog 130 [.slice 0 [] o k cap, .fn 100 [] []] 1 [(0, some ⟨.row .cell, .u8s bs, false⟩)] ⟨.i64 (-1), [], []⟩ := by
 refine acA tab mix Tryz.func130 {} ?_
 refine go ?_
 refine aX Nat (fun i => [(0, .slice 0 [] o k cap), (1, .fn 100 [] []), (7, .i64 k), (8, .i64 i)]) (fun i => [(0, some ⟨.row .cell, .u8s bs, false⟩)]) 1
  (fun i => i ≤ k) (fun i => k - i) 0 [0] (Nat.zero_le _) aK ?_
 intro i hi
 refine go ?_
 refine Br.split (fun hh => ?_) (fun hh => ?_)
 ·have hi : i < k := by have := of_decide_eq_true hh; omega
  have hf := vY (bs.getD (o + i) 0)
  rw [decide_eq_true (h i hi)] at hf
  refine go ?_
  refine aA hf [] ?_
  refine bB (i + 1) [0] aK
 ·refine go ?_
  refine aI [0]
theorem aGY (bs : B8) (o k j : Nat) (cap : Option Nat) (hb : o + k ≤ bs.length) (hk : k < 4611686018427387904) (hj : j < k) (h : ∀ i, i < j → bs.getD (o + i) 0 = 0) (hn : ¬ bs.getD (o + j) 0 = 0) :
  AC Tryz.prog 130 [.slice 0 [] o k cap, .fn 100 [] []] 1 [(0, some ⟨.row .cell, .u8s bs, false⟩)] ⟨.i64 j, [], []⟩ := by
 refine acA tab mix Tryz.func130 {} ?_
 refine go ?_
 refine aX Nat (fun i => [(0, .slice 0 [] o k cap), (1, .fn 100 [] []), (7, .i64 k), (8, .i64 i)]) (fun i => [(0, some ⟨.row .cell, .u8s bs, false⟩)]) 1
  (fun i => i ≤ j) (fun i => k - i) 0 [0] (Nat.zero_le _) aK ?_
 intro i hi
 refine go ?_
 refine brY ?_ (h := decide_eq_true (show (i : Int) < (k : Int) by omega))
 have hf := vY (bs.getD (o + i) 0)
 by_cases he : i = j
 ·subst he
  rw [decide_eq_false hn] at hf
  refine go ?_
  refine aA hf [] ?_
  refine aI [0]
 ·rw [decide_eq_true (h i (by omega))] at hf
  refine go ?_
  refine aA hf [] ?_
  refine bB (i + 1) [0] aK
def eH (bs : B8) (o k : Nat) : Bool := ((bs.drop o).take k).all fun c => decide (c = 0)
theorem i8 {bs : B8} {o k : Nat} (hb : o + k ≤ bs.length) : eH bs o k = true ↔ ∀ i, i < k → bs.getD (o + i) 0 = 0 := by
 unfold eH
 rw [List.all_eq_true]
 constructor
 ·intro h i hi
  have : bs.getD (o + i) 0 ∈ (bs.drop o).take k := by
   have e : ((bs.drop o).take k)[i]? = some (bs.getD (o + i) 0) := by
    rw [List.getElem?_take, if_pos hi, List.getElem?_drop, List.getD_eq_getElem?_getD, List.getElem?_eq_getElem (by omega)]; rfl
   exact List.mem_of_getElem? e
  exact of_decide_eq_true (h _ this)
 ·intro h c hc
  obtain ⟨i, hi⟩ := List.mem_iff_getElem?.1 hc
  have hlt : i < ((bs.drop o).take k).length := (List.getElem?_eq_some_iff.1 hi).1
  rw [List.length_take, List.length_drop] at hlt
  have hik : i < k := by omega
  rw [List.getElem?_take, if_pos hik, List.getElem?_drop] at hi
  have e := h i hik
  rw [List.getD_eq_getElem?_getD, hi] at e
  exact decide_eq_true e
theorem yA : ∀ (k : Nat) (f : Nat → Prop) [DecidablePred f], ¬ (∀ i, i < k → f i) → ∃ j, j < k ∧ (∀ i, i < j → f i) ∧ ¬ f j
 |0, _, _, h => absurd (fun _ h => absurd h (Nat.not_lt_zero _)) h
 |k + 1, f, _, h => by
  by_cases hk : ∀ i, i < k → f i
  ·exact ⟨k, Nat.lt_succ_self k, hk, fun hf => h fun i hi => by
    rcases Nat.lt_or_eq_of_le (Nat.le_of_lt_succ hi) with h' | h'
    ·exact hk i h'
    ·exact h' ▸ hf⟩
  ·obtain ⟨j, h1, h2, h3⟩ := yA k f hk
   exact ⟨j, Nat.lt_succ_of_lt h1, h2, h3⟩
section
variable (bs : B8) (o k : Nat) (cap : Option Nat) (hb : o + k ≤ bs.length) (hk : k < 4611686018427387904)
include bs o k cap hb hk
theorem aBS :
  AC Tryz.prog 99 [.slice 0 [] o k cap, .fn 100 [] []] 1 [(0, some ⟨.row .cell, .u8s bs, false⟩)] ⟨.bool (!eH bs o k), [], []⟩ := by
 by_cases h : ∀ i, i < k → bs.getD (o + i) 0 = 0
 ·rw [(i8 hb).2 h]
  have hi := aGZ bs o k cap hb hk h
  refine acA tab mix Tryz.func99 {} ?_
  refine gob ?_
  refine aA hi [0] ?_
  refine aI [0]
 ·have e : eH bs o k = false := by
   cases hz : eH bs o k with
   |false => rfl
   |true => exact absurd ((i8 hb).1 hz) h
  rw [e]
  obtain ⟨j, h1, h2, h3⟩ := yA k (fun i => bs.getD (o + i) 0 = 0) h
  have hi := aGY bs o k j cap hb hk h1 h2 h3
  refine acA tab mix Tryz.func99 {} ?_
  refine gob ?_
  refine aA hi [0] ?_
  refine aI [0] (h1 := ?_)
  show xB (.bool (decide ((j : Int) ≥ 0))) [.bool true]
  rw [decide_eq_true (Int.natCast_nonneg j)]; rfl
theorem aGI :
  AC Tryz.prog 52 [.slice 0 [] o k cap] 1 [(0, some ⟨.row .cell, .u8s bs, false⟩)] ⟨.bool (eH bs o k), [], []⟩ := by
 have hc := aBS bs o k cap hb hk
 generalize eH bs o k = y at hc ⊢
 refine acA tab mix Tryz.func52 {} ?_
 refine gob ?_
 refine aA hc [0] ?_
 refine aI [0] (h1 := ?_)
 cases y <;> rfl
end
def lJ (bs : B8) (o : Nat) : Bool := decide (u4G bs o = 0) && !decide ((bs.drop (o + 4)).take 32 = zB 32)
def aGK (bs : B8) : D := (D.node [aB (u4G bs 0) ((bs.drop 4).take 32), aB (u4G bs 36) ((bs.drop 40).take 32), aB (u4G bs 72) ((bs.drop 76).take 32), aB (u4G bs 108) ((bs.drop 112).take 32), aB (u4G bs 144) ((bs.drop 148).take 32), aB (u4G bs 180) ((bs.drop 184).take 32), aB (u4G bs 216) ((bs.drop 220).take 32), aB (u4G bs 252) ((bs.drop 256).take 32)])
def aGw (bs : B8) : Bool := lJ bs 0 || lJ bs 36 || lJ bs 72 || lJ bs 108 || lJ bs 144 || lJ bs 180 || lJ bs 216 || lJ bs 252
def aDa (bs : B8) : D × Int := bif aGw bs then (iO, 4) else (aGK bs, 0)
def gY (bs : B8) : Nat → D
 |0 => (D.node [aB 0 (zB 32), aB 0 (zB 32), aB 0 (zB 32), aB 0 (zB 32), aB 0 (zB 32), aB 0 (zB 32), aB 0 (zB 32), aB 0 (zB 32)])
 |1 => (D.node [aB (u4G bs 0) ((bs.drop 4).take 32), aB 0 (zB 32), aB 0 (zB 32), aB 0 (zB 32), aB 0 (zB 32), aB 0 (zB 32), aB 0 (zB 32), aB 0 (zB 32)])
 |2 => (D.node [aB (u4G bs 0) ((bs.drop 4).take 32), aB (u4G bs 36) ((bs.drop 40).take 32), aB 0 (zB 32), aB 0 (zB 32), aB 0 (zB 32), aB 0 (zB 32), aB 0 (zB 32), aB 0 (zB 32)])
 |3 => (D.node [aB (u4G bs 0) ((bs.drop 4).take 32), aB (u4G bs 36) ((bs.drop 40).take 32), aB (u4G bs 72) ((bs.drop 76).take 32), aB 0 (zB 32), aB 0 (zB 32), aB 0 (zB 32), aB 0 (zB 32), aB 0 (zB 32)])
 |4 => (D.node [aB (u4G bs 0) ((bs.drop 4).take 32), aB (u4G bs 36) ((bs.drop 40).take 32), aB (u4G bs 72) ((bs.drop 76).take 32), aB (u4G bs 108) ((bs.drop 112).take 32), aB 0 (zB 32), aB 0 (zB 32), aB 0 (zB 32), aB 0 (zB 32)])
 |5 => (D.node [aB (u4G bs 0) ((bs.drop 4).take 32), aB (u4G bs 36) ((bs.drop 40).take 32), aB (u4G bs 72) ((bs.drop 76).take 32), aB (u4G bs 108) ((bs.drop 112).take 32), aB (u4G bs 144) ((bs.drop 148).take 32), aB 0 (zB 32), aB 0 (zB 32), aB 0 (zB 32)])
 |6 => (D.node [aB (u4G bs 0) ((bs.drop 4).take 32), aB (u4G bs 36) ((bs.drop 40).take 32), aB (u4G bs 72) ((bs.drop 76).take 32), aB (u4G bs 108) ((bs.drop 112).take 32), aB (u4G bs 144) ((bs.drop 148).take 32), aB (u4G bs 180) ((bs.drop 184).take 32), aB 0 (zB 32), aB 0 (zB 32)])
 |7 => (D.node [aB (u4G bs 0) ((bs.drop 4).take 32), aB (u4G bs 36) ((bs.drop 40).take 32), aB (u4G bs 72) ((bs.drop 76).take 32), aB (u4G bs 108) ((bs.drop 112).take 32), aB (u4G bs 144) ((bs.drop 148).take 32), aB (u4G bs 180) ((bs.drop 184).take 32), aB (u4G bs 216) ((bs.drop 220).take 32), aB 0 (zB 32)])
 |_ => aGK bs
theorem cR {bs : B8} {i : Nat} (hi : i < 8) (h : lJ bs (36 * i) = true) : aDa bs = (iO, 4) := by
 have : aGw bs = true := by
  unfold aGw
  have : i = 0 ∨ i = 1 ∨ i = 2 ∨ i = 3 ∨ i = 4 ∨ i = 5 ∨ i = 6 ∨ i = 7 := by omega
  rcases this with rfl | rfl | rfl | rfl | rfl | rfl | rfl | rfl <;> (have h' := h; simp only [Nat.mul_zero, Nat.mul_one, Nat.reduceMul] at h'; simp only [h', Bool.true_or, Bool.or_true])
 unfold aDa; rw [this]; rfl
theorem aD9 {bs : B8} (h : ∀ j, j < 8 → lJ bs (36 * j) = false) : aDa bs = (aGK bs, 0) := by
 have : aGw bs = false := by
  unfold aGw
  have h0 := h 0 (by decide); have h1 := h 1 (by decide); have h2 := h 2 (by decide); have h3 := h 3 (by decide)
  have h4 := h 4 (by decide); have h5 := h 5 (by decide); have h6 := h 6 (by decide); have h7 := h 7 (by decide)
  simp only [Nat.mul_zero, Nat.mul_one, Nat.reduceMul] at h0 h1 h2 h3 h4 h5 h6 h7
  rw [h0, h1, h2, h3, h4, h5, h6, h7]; rfl
 unfold aDa; rw [this]; rfl
theorem dJ (a : BitVec 32) (s : B8) : (aB a s).eqb (aB 0 (zB 32)) = (decide (a = 0) && decide (s = zB 32)) := by
 show (decide (a = 0) && (decide (s = zB 32) && true)) = _
 rw [Bool.and_true]
theorem zH {l y : B8} (hl : l.length = 32) (hy : y.length = 32) : l.take 0 ++ (y.drop 0).take 32 ++ l.drop (0 + 32) = y := by
 rw [List.take_zero, List.nil_append, Nat.zero_add, List.drop_of_length_le (l := l) (by omega), List.append_nil, List.drop_zero, List.take_of_length_le (by omega)]
theorem dQ {bs : B8} {i : Nat} {R : D × Int} (hi : (∀ j, j < i → lJ bs (36 * j) = false) ∧ lJ bs (36 * i) = false) : ∀ j, j < i + 1 → lJ bs (36 * j) = false := fun j hj => by
 rcases Nat.lt_or_eq_of_le (Nat.le_of_lt_succ hj) with h' | h'
 ·exact hi.1 j h'
 ·exact h' ▸ hi.2
abbrev tNd : Ty := .arr 8 gU
set_option maxHeartbeats 4000000 in
theorem aJ9 (bs : B8) (hb : 288 ≤ bs.length) :
  AC Tryz.prog 51 [.slice 0 [] 0 288 none] 1 [(0, some ⟨.row .cell, .u8s bs, false⟩)] ⟨.tup [(aDa bs).1, .i64 (aDa bs).2], [], []⟩ := by
 obtain ⟨R, hR⟩ : ∃ R, aDa bs = R := ⟨_, rfl⟩
 rw [hR]
 have hr := aH2 bs 0 288 none
 have e1 := aJT bs 288 0 none
 have e2 := aHX bs 288 0 none
 refine acA tab mix Tryz.func51 {} ?_
 refine gob ?_
 refine aA hr [0] ?_
 refine aX (Nat × D) (fun y => [(2, .ptr 1 []), (4, .ptr 2 []), (5, .ptr 3 []), (10, .i64 y.1)]) (fun y => [(0, some ⟨.row .cell, .u8s bs, false⟩), (1, some ⟨tNd, iO, true⟩), (2, some ⟨tNd, y.2, true⟩), (3, some ⟨tRd, .node [.slice 0 [] (36 * y.1) (288 - 36 * y.1) none, .i64 0], true⟩)]) 4
  (fun y => y.1 ≤ 8 ∧ y.2 = gY bs y.1 ∧ ∀ j, j < y.1 → lJ bs (36 * j) = false) (fun y => 8 - y.1) (0, gY bs 0) [0, 1, 2, 3] ⟨Nat.zero_le _, rfl, fun j h => absurd h (Nat.not_lt_zero _)⟩ aK ?_
 rintro ⟨i, d⟩ hI
 obtain ⟨hi, hd, hall⟩ := hI
 have hi : i ≤ 8 := hi
 have hd : d = gY bs i := hd
 have hall : ∀ j, j < i → lJ bs (36 * j) = false := hall
 have : i = 0 ∨ i = 1 ∨ i = 2 ∨ i = 3 ∨ i = 4 ∨ i = 5 ∨ i = 6 ∨ i = 7 ∨ i = 8 := by omega
 rcases this with rfl | rfl | rfl | rfl | rfl | rfl | rfl | rfl | rfl
 ·have c := jT bs 0 288 none (by decide) (by omega)
  have t := jQ bs 4 32 284 none (by decide) (by omega) (by decide)
  subst hd
  have l : ((bs.drop 4).take 32).length = 32 := by rw [List.length_take, List.length_drop]; omega
  have hb : lJ bs (36 * 0) = (decide (u4G bs 0 = 0) && !decide ((bs.drop 4).take 32 = zB 32)) := rfl
  have hx := cR (bs := bs) (i := 0) (by decide)
  rw [hb, hR] at hx
  have hy : gY bs 1 = (D.node [aB (u4G bs 0) ((bs.drop 4).take 32), aB 0 (zB 32), aB 0 (zB 32), aB 0 (zB 32), aB 0 (zB 32), aB 0 (zB 32), aB 0 (zB 32), aB 0 (zB 32)]) := rfl
  skip
  generalize (bs.drop 4).take 32 = s at t l hb hx hy
  generalize u4G bs 0 = a at c hb hx hy
  refine gob ?_
  refine bK c [0, 3] ?_
  iterate 2 (first | refine go1 ?_)
  refine lK (D.node [aB a (zB 32), aB 0 (zB 32), aB 0 (zB 32), aB 0 (zB 32), aB 0 (zB 32), aB 0 (zB 32), aB 0 (zB 32), aB 0 (zB 32)]) rfl rfl rfl rfl rfl rfl rfl rfl rfl ⟨(show 0 < 8 from by decide), trivial⟩ rfl ?_
  refine go ?_
  refine bK t [0, 3] ?_
  skip
  refine aBQ (D.node [aB a s, aB 0 (zB 32), aB 0 (zB 32), aB 0 (zB 32), aB 0 (zB 32), aB 0 (zB 32), aB 0 (zB 32), aB 0 (zB 32)]) rfl rfl rfl rfl rfl rfl rfl rfl rfl rfl rfl rfl rfl rfl rfl (by decide) rfl rfl ?_ ⟨by omega, trivial⟩ ⟨(show 0 < 8 from by decide), (by decide : 0 + 32 ≤ (List.replicate 32 (0 : BitVec 8)).length), trivial⟩ ?_ ?_
  ·exact congrArg (fun x => some (D.node [aB a x, aB 0 (zB 32), aB 0 (zB 32), aB 0 (zB 32), aB 0 (zB 32), aB 0 (zB 32), aB 0 (zB 32), aB 0 (zB 32)])) (zH (l := zB 32) (y := s) rfl l)
  ·show (List.take 32 (List.drop 0 s)).length = 32
   rw [List.drop_zero, List.length_take]; omega
  refine go ?_
  by_cases qa : a = 0
  ·refine Br.yes (decide_eq_true qa) ?_
   by_cases qs : s = zB 32
   ·subst qs
    subst qa
    refine gob ?_
    refine bB (1, (D.node [aB 0 (zB 32), aB 0 (zB 32), aB 0 (zB 32), aB 0 (zB 32), aB 0 (zB 32), aB 0 (zB 32), aB 0 (zB 32), aB 0 (zB 32)])) [0, 1, 2, 3] aK (h1 := ⟨Nat.le_of_ble_eq_true rfl, hy.symm, dQ (R := R) ⟨hall, by rw [hb]; rfl⟩⟩) (h2 := (by decide : 8 - 1 < 8 - 0))
   ·have hx := hx (by rw [decide_eq_true qa, decide_eq_false qs]; rfl)
    subst hx
    refine gob ?_
    refine brY ?_ (h := by show (!((aB a s).eqb (aB 0 (zB 32)))) = true; rw [dJ, decide_eq_false qs, Bool.and_false]; rfl)
    refine gob ?_
    refine aI [0]
  ·refine brN ?_ (decide_eq_false qa)
   refine gob ?_
   refine bB (1, (D.node [aB a s, aB 0 (zB 32), aB 0 (zB 32), aB 0 (zB 32), aB 0 (zB 32), aB 0 (zB 32), aB 0 (zB 32), aB 0 (zB 32)])) [0, 1, 2, 3] aK (h1 := ⟨Nat.le_of_ble_eq_true rfl, hy.symm, dQ (R := R) ⟨hall, by rw [hb, decide_eq_false qa]; rfl⟩⟩) (h2 := (by decide : 8 - 1 < 8 - 0))
 ·have c := jT bs 36 252 none (by decide) (by omega)
  have t := jQ bs 40 32 248 none (by decide) (by omega) (by decide)
  subst hd
  have l : ((bs.drop 40).take 32).length = 32 := by rw [List.length_take, List.length_drop]; omega
  have hb : lJ bs (36 * 1) = (decide (u4G bs 36 = 0) && !decide ((bs.drop 40).take 32 = zB 32)) := rfl
  have hx := cR (bs := bs) (i := 1) (by decide)
  rw [hb, hR] at hx
  have hy : gY bs 2 = (D.node [aB (u4G bs 0) ((bs.drop 4).take 32), aB (u4G bs 36) ((bs.drop 40).take 32), aB 0 (zB 32), aB 0 (zB 32), aB 0 (zB 32), aB 0 (zB 32), aB 0 (zB 32), aB 0 (zB 32)]) := rfl
  skip
  generalize (bs.drop 40).take 32 = s at t l hb hx hy
  generalize u4G bs 36 = a at c hb hx hy
  refine gob ?_
  refine bK c [0, 3] ?_
  iterate 2 (first | refine go1 ?_)
  refine lK (D.node [aB (u4G bs 0) ((bs.drop 4).take 32), aB a (zB 32), aB 0 (zB 32), aB 0 (zB 32), aB 0 (zB 32), aB 0 (zB 32), aB 0 (zB 32), aB 0 (zB 32)]) rfl rfl rfl rfl rfl rfl rfl rfl rfl ⟨(show 1 < 8 from by decide), trivial⟩ rfl ?_
  refine go ?_
  refine bK t [0, 3] ?_
  skip
  refine aBQ (D.node [aB (u4G bs 0) ((bs.drop 4).take 32), aB a s, aB 0 (zB 32), aB 0 (zB 32), aB 0 (zB 32), aB 0 (zB 32), aB 0 (zB 32), aB 0 (zB 32)]) rfl rfl rfl rfl rfl rfl rfl rfl rfl rfl rfl rfl rfl rfl rfl (by decide) rfl rfl ?_ ⟨by omega, trivial⟩ ⟨(show 1 < 8 from by decide), (by decide : 0 + 32 ≤ (List.replicate 32 (0 : BitVec 8)).length), trivial⟩ ?_ ?_
  ·exact congrArg (fun x => some (D.node [aB (u4G bs 0) ((bs.drop 4).take 32), aB a x, aB 0 (zB 32), aB 0 (zB 32), aB 0 (zB 32), aB 0 (zB 32), aB 0 (zB 32), aB 0 (zB 32)])) (zH (l := zB 32) (y := s) rfl l)
  ·show (List.take 32 (List.drop 0 s)).length = 32
   rw [List.drop_zero, List.length_take]; omega
  refine go ?_
  by_cases qa : a = 0
  ·refine Br.yes (decide_eq_true qa) ?_
   by_cases qs : s = zB 32
   ·subst qs
    subst qa
    refine gob ?_
    refine bB (2, (D.node [aB (u4G bs 0) ((bs.drop 4).take 32), aB 0 (zB 32), aB 0 (zB 32), aB 0 (zB 32), aB 0 (zB 32), aB 0 (zB 32), aB 0 (zB 32), aB 0 (zB 32)])) [0, 1, 2, 3] aK (h1 := ⟨Nat.le_of_ble_eq_true rfl, hy.symm, dQ (R := R) ⟨hall, by rw [hb]; rfl⟩⟩) (h2 := (by decide : 8 - 2 < 8 - 1))
   ·have hx := hx (by rw [decide_eq_true qa, decide_eq_false qs]; rfl)
    subst hx
    refine gob ?_
    refine brY ?_ (h := by show (!((aB a s).eqb (aB 0 (zB 32)))) = true; rw [dJ, decide_eq_false qs, Bool.and_false]; rfl)
    refine gob ?_
    refine aI [0]
  ·refine brN ?_ (decide_eq_false qa)
   refine gob ?_
   refine bB (2, (D.node [aB (u4G bs 0) ((bs.drop 4).take 32), aB a s, aB 0 (zB 32), aB 0 (zB 32), aB 0 (zB 32), aB 0 (zB 32), aB 0 (zB 32), aB 0 (zB 32)])) [0, 1, 2, 3] aK (h1 := ⟨Nat.le_of_ble_eq_true rfl, hy.symm, dQ (R := R) ⟨hall, by rw [hb, decide_eq_false qa]; rfl⟩⟩) (h2 := (by decide : 8 - 2 < 8 - 1))
 ·have c := jT bs 72 216 none (by decide) (by omega)
  have t := jQ bs 76 32 212 none (by decide) (by omega) (by decide)
  subst hd
  have l : ((bs.drop 76).take 32).length = 32 := by rw [List.length_take, List.length_drop]; omega
  have hb : lJ bs (36 * 2) = (decide (u4G bs 72 = 0) && !decide ((bs.drop 76).take 32 = zB 32)) := rfl
  have hx := cR (bs := bs) (i := 2) (by decide)
  rw [hb, hR] at hx
  have hy : gY bs 3 = (D.node [aB (u4G bs 0) ((bs.drop 4).take 32), aB (u4G bs 36) ((bs.drop 40).take 32), aB (u4G bs 72) ((bs.drop 76).take 32), aB 0 (zB 32), aB 0 (zB 32), aB 0 (zB 32), aB 0 (zB 32), aB 0 (zB 32)]) := rfl
  skip
  generalize (bs.drop 76).take 32 = s at t l hb hx hy
  generalize u4G bs 72 = a at c hb hx hy
  refine gob ?_
  refine bK c [0, 3] ?_
  iterate 2 (first | refine go1 ?_)
  refine lK (D.node [aB (u4G bs 0) ((bs.drop 4).take 32), aB (u4G bs 36) ((bs.drop 40).take 32), aB a (zB 32), aB 0 (zB 32), aB 0 (zB 32), aB 0 (zB 32), aB 0 (zB 32), aB 0 (zB 32)]) rfl rfl rfl rfl rfl rfl rfl rfl rfl ⟨(show 2 < 8 from by decide), trivial⟩ rfl ?_
  refine go ?_
  refine bK t [0, 3] ?_
  skip
  refine aBQ (D.node [aB (u4G bs 0) ((bs.drop 4).take 32), aB (u4G bs 36) ((bs.drop 40).take 32), aB a s, aB 0 (zB 32), aB 0 (zB 32), aB 0 (zB 32), aB 0 (zB 32), aB 0 (zB 32)]) rfl rfl rfl rfl rfl rfl rfl rfl rfl rfl rfl rfl rfl rfl rfl (by decide) rfl rfl ?_ ⟨by omega, trivial⟩ ⟨(show 2 < 8 from by decide), (by decide : 0 + 32 ≤ (List.replicate 32 (0 : BitVec 8)).length), trivial⟩ ?_ ?_
  ·exact congrArg (fun x => some (D.node [aB (u4G bs 0) ((bs.drop 4).take 32), aB (u4G bs 36) ((bs.drop 40).take 32), aB a x, aB 0 (zB 32), aB 0 (zB 32), aB 0 (zB 32), aB 0 (zB 32), aB 0 (zB 32)])) (zH (l := zB 32) (y := s) rfl l)
  ·show (List.take 32 (List.drop 0 s)).length = 32
   rw [List.drop_zero, List.length_take]; omega
  refine go ?_
  by_cases qa : a = 0
  ·refine Br.yes (decide_eq_true qa) ?_
   by_cases qs : s = zB 32
   ·subst qs
    subst qa
    refine gob ?_
    refine bB (3, (D.node [aB (u4G bs 0) ((bs.drop 4).take 32), aB (u4G bs 36) ((bs.drop 40).take 32), aB 0 (zB 32), aB 0 (zB 32), aB 0 (zB 32), aB 0 (zB 32), aB 0 (zB 32), aB 0 (zB 32)])) [0, 1, 2, 3] aK (h1 := ⟨Nat.le_of_ble_eq_true rfl, hy.symm, dQ (R := R) ⟨hall, by rw [hb]; rfl⟩⟩) (h2 := (by decide : 8 - 3 < 8 - 2))
   ·have hx := hx (by rw [decide_eq_true qa, decide_eq_false qs]; rfl)
    subst hx
    refine gob ?_
    refine brY ?_ (h := by show (!((aB a s).eqb (aB 0 (zB 32)))) = true; rw [dJ, decide_eq_false qs, Bool.and_false]; rfl)
    refine gob ?_
    refine aI [0]
  ·refine brN ?_ (decide_eq_false qa)
   refine gob ?_
   refine bB (3, (D.node [aB (u4G bs 0) ((bs.drop 4).take 32), aB (u4G bs 36) ((bs.drop 40).take 32), aB a s, aB 0 (zB 32), aB 0 (zB 32), aB 0 (zB 32), aB 0 (zB 32), aB 0 (zB 32)])) [0, 1, 2, 3] aK (h1 := ⟨Nat.le_of_ble_eq_true rfl, hy.symm, dQ (R := R) ⟨hall, by rw [hb, decide_eq_false qa]; rfl⟩⟩) (h2 := (by decide : 8 - 3 < 8 - 2))
 ·have c := jT bs 108 180 none (by decide) (by omega)
  have t := jQ bs 112 32 176 none (by decide) (by omega) (by decide)
  subst hd
  have l : ((bs.drop 112).take 32).length = 32 := by rw [List.length_take, List.length_drop]; omega
  have hb : lJ bs (36 * 3) = (decide (u4G bs 108 = 0) && !decide ((bs.drop 112).take 32 = zB 32)) := rfl
  have hx := cR (bs := bs) (i := 3) (by decide)
  rw [hb, hR] at hx
  have hy : gY bs 4 = (D.node [aB (u4G bs 0) ((bs.drop 4).take 32), aB (u4G bs 36) ((bs.drop 40).take 32), aB (u4G bs 72) ((bs.drop 76).take 32), aB (u4G bs 108) ((bs.drop 112).take 32), aB 0 (zB 32), aB 0 (zB 32), aB 0 (zB 32), aB 0 (zB 32)]) := rfl
  skip
  generalize (bs.drop 112).take 32 = s at t l hb hx hy
  generalize u4G bs 108 = a at c hb hx hy
  refine gob ?_
  refine bK c [0, 3] ?_
  iterate 2 (first | refine go1 ?_)
  refine lK (D.node [aB (u4G bs 0) ((bs.drop 4).take 32), aB (u4G bs 36) ((bs.drop 40).take 32), aB (u4G bs 72) ((bs.drop 76).take 32), aB a (zB 32), aB 0 (zB 32), aB 0 (zB 32), aB 0 (zB 32), aB 0 (zB 32)]) rfl rfl rfl rfl rfl rfl rfl rfl rfl ⟨(show 3 < 8 from by decide), trivial⟩ rfl ?_
  refine go ?_
  refine bK t [0, 3] ?_
  skip
  refine aBQ (D.node [aB (u4G bs 0) ((bs.drop 4).take 32), aB (u4G bs 36) ((bs.drop 40).take 32), aB (u4G bs 72) ((bs.drop 76).take 32), aB a s, aB 0 (zB 32), aB 0 (zB 32), aB 0 (zB 32), aB 0 (zB 32)]) rfl rfl rfl rfl rfl rfl rfl rfl rfl rfl rfl rfl rfl rfl rfl (by decide) rfl rfl ?_ ⟨by omega, trivial⟩ ⟨(show 3 < 8 from by decide), (by decide : 0 + 32 ≤ (List.replicate 32 (0 : BitVec 8)).length), trivial⟩ ?_ ?_
  ·exact congrArg (fun x => some (D.node [aB (u4G bs 0) ((bs.drop 4).take 32), aB (u4G bs 36) ((bs.drop 40).take 32), aB (u4G bs 72) ((bs.drop 76).take 32), aB a x, aB 0 (zB 32), aB 0 (zB 32), aB 0 (zB 32), aB 0 (zB 32)])) (zH (l := zB 32) (y := s) rfl l)
  ·show (List.take 32 (List.drop 0 s)).length = 32
   rw [List.drop_zero, List.length_take]; omega
  refine go ?_
  by_cases qa : a = 0
  ·refine Br.yes (decide_eq_true qa) ?_
   by_cases qs : s = zB 32
   ·subst qs
    subst qa
    refine gob ?_
    refine bB (4, (D.node [aB (u4G bs 0) ((bs.drop 4).take 32), aB (u4G bs 36) ((bs.drop 40).take 32), aB (u4G bs 72) ((bs.drop 76).take 32), aB 0 (zB 32), aB 0 (zB 32), aB 0 (zB 32), aB 0 (zB 32), aB 0 (zB 32)])) [0, 1, 2, 3] aK (h1 := ⟨Nat.le_of_ble_eq_true rfl, hy.symm, dQ (R := R) ⟨hall, by rw [hb]; rfl⟩⟩) (h2 := (by decide : 8 - 4 < 8 - 3))
   ·have hx := hx (by rw [decide_eq_true qa, decide_eq_false qs]; rfl)
    subst hx
    refine gob ?_
    refine brY ?_ (h := by show (!((aB a s).eqb (aB 0 (zB 32)))) = true; rw [dJ, decide_eq_false qs, Bool.and_false]; rfl)
    refine gob ?_
    refine aI [0]
  ·refine brN ?_ (decide_eq_false qa)
   refine gob ?_
   refine bB (4, (D.node [aB (u4G bs 0) ((bs.drop 4).take 32), aB (u4G bs 36) ((bs.drop 40).take 32), aB (u4G bs 72) ((bs.drop 76).take 32), aB a s, aB 0 (zB 32), aB 0 (zB 32), aB 0 (zB 32), aB 0 (zB 32)])) [0, 1, 2, 3] aK (h1 := ⟨Nat.le_of_ble_eq_true rfl, hy.symm, dQ (R := R) ⟨hall, by rw [hb, decide_eq_false qa]; rfl⟩⟩) (h2 := (by decide : 8 - 4 < 8 - 3))
 ·have c := jT bs 144 144 none (by decide) (by omega)
  have t := jQ bs 148 32 140 none (by decide) (by omega) (by decide)
  subst hd
  have l : ((bs.drop 148).take 32).length = 32 := by rw [List.length_take, List.length_drop]; omega
  have hb : lJ bs (36 * 4) = (decide (u4G bs 144 = 0) && !decide ((bs.drop 148).take 32 = zB 32)) := rfl
  have hx := cR (bs := bs) (i := 4) (by decide)
  rw [hb, hR] at hx
  have hy : gY bs 5 = (D.node [aB (u4G bs 0) ((bs.drop 4).take 32), aB (u4G bs 36) ((bs.drop 40).take 32), aB (u4G bs 72) ((bs.drop 76).take 32), aB (u4G bs 108) ((bs.drop 112).take 32), aB (u4G bs 144) ((bs.drop 148).take 32), aB 0 (zB 32), aB 0 (zB 32), aB 0 (zB 32)]) := rfl
  skip
  generalize (bs.drop 148).take 32 = s at t l hb hx hy
  generalize u4G bs 144 = a at c hb hx hy
  refine gob ?_
  refine bK c [0, 3] ?_
  iterate 2 (first | refine go1 ?_)
  refine lK (D.node [aB (u4G bs 0) ((bs.drop 4).take 32), aB (u4G bs 36) ((bs.drop 40).take 32), aB (u4G bs 72) ((bs.drop 76).take 32), aB (u4G bs 108) ((bs.drop 112).take 32), aB a (zB 32), aB 0 (zB 32), aB 0 (zB 32), aB 0 (zB 32)]) rfl rfl rfl rfl rfl rfl rfl rfl rfl ⟨(show 4 < 8 from by decide), trivial⟩ rfl ?_
  refine go ?_
  refine bK t [0, 3] ?_
  skip
  refine aBQ (D.node [aB (u4G bs 0) ((bs.drop 4).take 32), aB (u4G bs 36) ((bs.drop 40).take 32), aB (u4G bs 72) ((bs.drop 76).take 32), aB (u4G bs 108) ((bs.drop 112).take 32), aB a s, aB 0 (zB 32), aB 0 (zB 32), aB 0 (zB 32)]) rfl rfl rfl rfl rfl rfl rfl rfl rfl rfl rfl rfl rfl rfl rfl (by decide) rfl rfl ?_ ⟨by omega, trivial⟩ ⟨(show 4 < 8 from by decide), (by decide : 0 + 32 ≤ (List.replicate 32 (0 : BitVec 8)).length), trivial⟩ ?_ ?_
  ·exact congrArg (fun x => some (D.node [aB (u4G bs 0) ((bs.drop 4).take 32), aB (u4G bs 36) ((bs.drop 40).take 32), aB (u4G bs 72) ((bs.drop 76).take 32), aB (u4G bs 108) ((bs.drop 112).take 32), aB a x, aB 0 (zB 32), aB 0 (zB 32), aB 0 (zB 32)])) (zH (l := zB 32) (y := s) rfl l)
  ·show (List.take 32 (List.drop 0 s)).length = 32
   rw [List.drop_zero, List.length_take]; omega
  refine go ?_
  by_cases qa : a = 0
  ·refine Br.yes (decide_eq_true qa) ?_
   by_cases qs : s = zB 32
   ·subst qs
    subst qa
    refine gob ?_
    refine bB (5, (D.node [aB (u4G bs 0) ((bs.drop 4).take 32), aB (u4G bs 36) ((bs.drop 40).take 32), aB (u4G bs 72) ((bs.drop 76).take 32), aB (u4G bs 108) ((bs.drop 112).take 32), aB 0 (zB 32), aB 0 (zB 32), aB 0 (zB 32), aB 0 (zB 32)])) [0, 1, 2, 3] aK (h1 := ⟨Nat.le_of_ble_eq_true rfl, hy.symm, dQ (R := R) ⟨hall, by rw [hb]; rfl⟩⟩) (h2 := (by decide : 8 - 5 < 8 - 4))
   ·have hx := hx (by rw [decide_eq_true qa, decide_eq_false qs]; rfl)
    subst hx
    refine gob ?_
    refine brY ?_ (h := by show (!((aB a s).eqb (aB 0 (zB 32)))) = true; rw [dJ, decide_eq_false qs, Bool.and_false]; rfl)
    refine gob ?_
    refine aI [0]
  ·refine brN ?_ (decide_eq_false qa)
   refine gob ?_
   refine bB (5, (D.node [aB (u4G bs 0) ((bs.drop 4).take 32), aB (u4G bs 36) ((bs.drop 40).take 32), aB (u4G bs 72) ((bs.drop 76).take 32), aB (u4G bs 108) ((bs.drop 112).take 32), aB a s, aB 0 (zB 32), aB 0 (zB 32), aB 0 (zB 32)])) [0, 1, 2, 3] aK (h1 := ⟨Nat.le_of_ble_eq_true rfl, hy.symm, dQ (R := R) ⟨hall, by rw [hb, decide_eq_false qa]; rfl⟩⟩) (h2 := (by decide : 8 - 5 < 8 - 4))
 ·have c := jT bs 180 108 none (by decide) (by omega)
  have t := jQ bs 184 32 104 none (by decide) (by omega) (by decide)
  subst hd
  have l : ((bs.drop 184).take 32).length = 32 := by rw [List.length_take, List.length_drop]; omega
  have hb : lJ bs (36 * 5) = (decide (u4G bs 180 = 0) && !decide ((bs.drop 184).take 32 = zB 32)) := rfl
  have hx := cR (bs := bs) (i := 5) (by decide)
  rw [hb, hR] at hx
  have hy : gY bs 6 = (D.node [aB (u4G bs 0) ((bs.drop 4).take 32), aB (u4G bs 36) ((bs.drop 40).take 32), aB (u4G bs 72) ((bs.drop 76).take 32), aB (u4G bs 108) ((bs.drop 112).take 32), aB (u4G bs 144) ((bs.drop 148).take 32), aB (u4G bs 180) ((bs.drop 184).take 32), aB 0 (zB 32), aB 0 (zB 32)]) := rfl
  skip
  generalize (bs.drop 184).take 32 = s at t l hb hx hy
  generalize u4G bs 180 = a at c hb hx hy
  refine gob ?_
  refine bK c [0, 3] ?_
  iterate 2 (first | refine go1 ?_)
  refine lK (D.node [aB (u4G bs 0) ((bs.drop 4).take 32), aB (u4G bs 36) ((bs.drop 40).take 32), aB (u4G bs 72) ((bs.drop 76).take 32), aB (u4G bs 108) ((bs.drop 112).take 32), aB (u4G bs 144) ((bs.drop 148).take 32), aB a (zB 32), aB 0 (zB 32), aB 0 (zB 32)]) rfl rfl rfl rfl rfl rfl rfl rfl rfl ⟨(show 5 < 8 from by decide), trivial⟩ rfl ?_
  refine go ?_
  refine bK t [0, 3] ?_
  skip
  refine aBQ (D.node [aB (u4G bs 0) ((bs.drop 4).take 32), aB (u4G bs 36) ((bs.drop 40).take 32), aB (u4G bs 72) ((bs.drop 76).take 32), aB (u4G bs 108) ((bs.drop 112).take 32), aB (u4G bs 144) ((bs.drop 148).take 32), aB a s, aB 0 (zB 32), aB 0 (zB 32)]) rfl rfl rfl rfl rfl rfl rfl rfl rfl rfl rfl rfl rfl rfl rfl (by decide) rfl rfl ?_ ⟨by omega, trivial⟩ ⟨(show 5 < 8 from by decide), (by decide : 0 + 32 ≤ (List.replicate 32 (0 : BitVec 8)).length), trivial⟩ ?_ ?_
  ·exact congrArg (fun x => some (D.node [aB (u4G bs 0) ((bs.drop 4).take 32), aB (u4G bs 36) ((bs.drop 40).take 32), aB (u4G bs 72) ((bs.drop 76).take 32), aB (u4G bs 108) ((bs.drop 112).take 32), aB (u4G bs 144) ((bs.drop 148).take 32), aB a x, aB 0 (zB 32), aB 0 (zB 32)])) (zH (l := zB 32) (y := s) rfl l)
  ·show (List.take 32 (List.drop 0 s)).length = 32
   rw [List.drop_zero, List.length_take]; omega
  refine go ?_
  by_cases qa : a = 0
  ·refine Br.yes (decide_eq_true qa) ?_
   by_cases qs : s = zB 32
   ·subst qs
    subst qa
    refine gob ?_
    refine bB (6, (D.node [aB (u4G bs 0) ((bs.drop 4).take 32), aB (u4G bs 36) ((bs.drop 40).take 32), aB (u4G bs 72) ((bs.drop 76).take 32), aB (u4G bs 108) ((bs.drop 112).take 32), aB (u4G bs 144) ((bs.drop 148).take 32), aB 0 (zB 32), aB 0 (zB 32), aB 0 (zB 32)])) [0, 1, 2, 3] aK (h1 := ⟨Nat.le_of_ble_eq_true rfl, hy.symm, dQ (R := R) ⟨hall, by rw [hb]; rfl⟩⟩) (h2 := (by decide : 8 - 6 < 8 - 5))
   ·have hx := hx (by rw [decide_eq_true qa, decide_eq_false qs]; rfl)
    subst hx
    refine gob ?_
    refine brY ?_ (h := by show (!((aB a s).eqb (aB 0 (zB 32)))) = true; rw [dJ, decide_eq_false qs, Bool.and_false]; rfl)
    refine gob ?_
    refine aI [0]
  ·refine brN ?_ (decide_eq_false qa)
   refine gob ?_
   refine bB (6, (D.node [aB (u4G bs 0) ((bs.drop 4).take 32), aB (u4G bs 36) ((bs.drop 40).take 32), aB (u4G bs 72) ((bs.drop 76).take 32), aB (u4G bs 108) ((bs.drop 112).take 32), aB (u4G bs 144) ((bs.drop 148).take 32), aB a s, aB 0 (zB 32), aB 0 (zB 32)])) [0, 1, 2, 3] aK (h1 := ⟨Nat.le_of_ble_eq_true rfl, hy.symm, dQ (R := R) ⟨hall, by rw [hb, decide_eq_false qa]; rfl⟩⟩) (h2 := (by decide : 8 - 6 < 8 - 5))
 ·have c := jT bs 216 72 none (by decide) (by omega)
  have t := jQ bs 220 32 68 none (by decide) (by omega) (by decide)
  subst hd
  have l : ((bs.drop 220).take 32).length = 32 := by rw [List.length_take, List.length_drop]; omega
  have hb : lJ bs (36 * 6) = (decide (u4G bs 216 = 0) && !decide ((bs.drop 220).take 32 = zB 32)) := rfl
  have hx := cR (bs := bs) (i := 6) (by decide)
  rw [hb, hR] at hx
  have hy : gY bs 7 = (D.node [aB (u4G bs 0) ((bs.drop 4).take 32), aB (u4G bs 36) ((bs.drop 40).take 32), aB (u4G bs 72) ((bs.drop 76).take 32), aB (u4G bs 108) ((bs.drop 112).take 32), aB (u4G bs 144) ((bs.drop 148).take 32), aB (u4G bs 180) ((bs.drop 184).take 32), aB (u4G bs 216) ((bs.drop 220).take 32), aB 0 (zB 32)]) := rfl
  skip
  generalize (bs.drop 220).take 32 = s at t l hb hx hy
  generalize u4G bs 216 = a at c hb hx hy
  refine gob ?_
  refine bK c [0, 3] ?_
  iterate 2 (first | refine go1 ?_)
  refine lK (D.node [aB (u4G bs 0) ((bs.drop 4).take 32), aB (u4G bs 36) ((bs.drop 40).take 32), aB (u4G bs 72) ((bs.drop 76).take 32), aB (u4G bs 108) ((bs.drop 112).take 32), aB (u4G bs 144) ((bs.drop 148).take 32), aB (u4G bs 180) ((bs.drop 184).take 32), aB a (zB 32), aB 0 (zB 32)]) rfl rfl rfl rfl rfl rfl rfl rfl rfl ⟨(show 6 < 8 from by decide), trivial⟩ rfl ?_
  refine go ?_
  refine bK t [0, 3] ?_
  skip
  refine aBQ (D.node [aB (u4G bs 0) ((bs.drop 4).take 32), aB (u4G bs 36) ((bs.drop 40).take 32), aB (u4G bs 72) ((bs.drop 76).take 32), aB (u4G bs 108) ((bs.drop 112).take 32), aB (u4G bs 144) ((bs.drop 148).take 32), aB (u4G bs 180) ((bs.drop 184).take 32), aB a s, aB 0 (zB 32)]) rfl rfl rfl rfl rfl rfl rfl rfl rfl rfl rfl rfl rfl rfl rfl (by decide) rfl rfl ?_ ⟨by omega, trivial⟩ ⟨(show 6 < 8 from by decide), (by decide : 0 + 32 ≤ (List.replicate 32 (0 : BitVec 8)).length), trivial⟩ ?_ ?_
  ·exact congrArg (fun x => some (D.node [aB (u4G bs 0) ((bs.drop 4).take 32), aB (u4G bs 36) ((bs.drop 40).take 32), aB (u4G bs 72) ((bs.drop 76).take 32), aB (u4G bs 108) ((bs.drop 112).take 32), aB (u4G bs 144) ((bs.drop 148).take 32), aB (u4G bs 180) ((bs.drop 184).take 32), aB a x, aB 0 (zB 32)])) (zH (l := zB 32) (y := s) rfl l)
  ·show (List.take 32 (List.drop 0 s)).length = 32
   rw [List.drop_zero, List.length_take]; omega
  refine go ?_
  by_cases qa : a = 0
  ·refine Br.yes (decide_eq_true qa) ?_
   by_cases qs : s = zB 32
   ·subst qs
    subst qa
    refine gob ?_
    refine bB (7, (D.node [aB (u4G bs 0) ((bs.drop 4).take 32), aB (u4G bs 36) ((bs.drop 40).take 32), aB (u4G bs 72) ((bs.drop 76).take 32), aB (u4G bs 108) ((bs.drop 112).take 32), aB (u4G bs 144) ((bs.drop 148).take 32), aB (u4G bs 180) ((bs.drop 184).take 32), aB 0 (zB 32), aB 0 (zB 32)])) [0, 1, 2, 3] aK (h1 := ⟨Nat.le_of_ble_eq_true rfl, hy.symm, dQ (R := R) ⟨hall, by rw [hb]; rfl⟩⟩) (h2 := (by decide : 8 - 7 < 8 - 6))
   ·have hx := hx (by rw [decide_eq_true qa, decide_eq_false qs]; rfl)
    subst hx
    refine gob ?_
    refine brY ?_ (h := by show (!((aB a s).eqb (aB 0 (zB 32)))) = true; rw [dJ, decide_eq_false qs, Bool.and_false]; rfl)
    refine gob ?_
    refine aI [0]
  ·refine brN ?_ (decide_eq_false qa)
   refine gob ?_
   refine bB (7, (D.node [aB (u4G bs 0) ((bs.drop 4).take 32), aB (u4G bs 36) ((bs.drop 40).take 32), aB (u4G bs 72) ((bs.drop 76).take 32), aB (u4G bs 108) ((bs.drop 112).take 32), aB (u4G bs 144) ((bs.drop 148).take 32), aB (u4G bs 180) ((bs.drop 184).take 32), aB a s, aB 0 (zB 32)])) [0, 1, 2, 3] aK (h1 := ⟨Nat.le_of_ble_eq_true rfl, hy.symm, dQ (R := R) ⟨hall, by rw [hb, decide_eq_false qa]; rfl⟩⟩) (h2 := (by decide : 8 - 7 < 8 - 6))
 ·have c := jT bs 252 36 none (by decide) (by omega)
  have t := jQ bs 256 32 32 none (by decide) (by omega) (by decide)
  subst hd
  have l : ((bs.drop 256).take 32).length = 32 := by rw [List.length_take, List.length_drop]; omega
  have hb : lJ bs (36 * 7) = (decide (u4G bs 252 = 0) && !decide ((bs.drop 256).take 32 = zB 32)) := rfl
  have hx := cR (bs := bs) (i := 7) (by decide)
  rw [hb, hR] at hx
  have hy : gY bs 8 = (D.node [aB (u4G bs 0) ((bs.drop 4).take 32), aB (u4G bs 36) ((bs.drop 40).take 32), aB (u4G bs 72) ((bs.drop 76).take 32), aB (u4G bs 108) ((bs.drop 112).take 32), aB (u4G bs 144) ((bs.drop 148).take 32), aB (u4G bs 180) ((bs.drop 184).take 32), aB (u4G bs 216) ((bs.drop 220).take 32), aB (u4G bs 252) ((bs.drop 256).take 32)]) := rfl
  skip
  generalize (bs.drop 256).take 32 = s at t l hb hx hy
  generalize u4G bs 252 = a at c hb hx hy
  refine gob ?_
  refine bK c [0, 3] ?_
  iterate 2 (first | refine go1 ?_)
  refine lK (D.node [aB (u4G bs 0) ((bs.drop 4).take 32), aB (u4G bs 36) ((bs.drop 40).take 32), aB (u4G bs 72) ((bs.drop 76).take 32), aB (u4G bs 108) ((bs.drop 112).take 32), aB (u4G bs 144) ((bs.drop 148).take 32), aB (u4G bs 180) ((bs.drop 184).take 32), aB (u4G bs 216) ((bs.drop 220).take 32), aB a (zB 32)]) rfl rfl rfl rfl rfl rfl rfl rfl rfl ⟨(show 7 < 8 from by decide), trivial⟩ rfl ?_
  refine go ?_
  refine bK t [0, 3] ?_
  skip
  refine aBQ (D.node [aB (u4G bs 0) ((bs.drop 4).take 32), aB (u4G bs 36) ((bs.drop 40).take 32), aB (u4G bs 72) ((bs.drop 76).take 32), aB (u4G bs 108) ((bs.drop 112).take 32), aB (u4G bs 144) ((bs.drop 148).take 32), aB (u4G bs 180) ((bs.drop 184).take 32), aB (u4G bs 216) ((bs.drop 220).take 32), aB a s]) rfl rfl rfl rfl rfl rfl rfl rfl rfl rfl rfl rfl rfl rfl rfl (by decide) rfl rfl ?_ ⟨by omega, trivial⟩ ⟨(show 7 < 8 from by decide), (by decide : 0 + 32 ≤ (List.replicate 32 (0 : BitVec 8)).length), trivial⟩ ?_ ?_
  ·exact congrArg (fun x => some (D.node [aB (u4G bs 0) ((bs.drop 4).take 32), aB (u4G bs 36) ((bs.drop 40).take 32), aB (u4G bs 72) ((bs.drop 76).take 32), aB (u4G bs 108) ((bs.drop 112).take 32), aB (u4G bs 144) ((bs.drop 148).take 32), aB (u4G bs 180) ((bs.drop 184).take 32), aB (u4G bs 216) ((bs.drop 220).take 32), aB a x])) (zH (l := zB 32) (y := s) rfl l)
  ·show (List.take 32 (List.drop 0 s)).length = 32
   rw [List.drop_zero, List.length_take]; omega
  refine go ?_
  by_cases qa : a = 0
  ·refine Br.yes (decide_eq_true qa) ?_
   by_cases qs : s = zB 32
   ·subst qs
    subst qa
    refine gob ?_
    refine bB (8, (D.node [aB (u4G bs 0) ((bs.drop 4).take 32), aB (u4G bs 36) ((bs.drop 40).take 32), aB (u4G bs 72) ((bs.drop 76).take 32), aB (u4G bs 108) ((bs.drop 112).take 32), aB (u4G bs 144) ((bs.drop 148).take 32), aB (u4G bs 180) ((bs.drop 184).take 32), aB (u4G bs 216) ((bs.drop 220).take 32), aB 0 (zB 32)])) [0, 1, 2, 3] aK (h1 := ⟨Nat.le_of_ble_eq_true rfl, hy.symm, dQ (R := R) ⟨hall, by rw [hb]; rfl⟩⟩) (h2 := (by decide : 8 - 8 < 8 - 7))
   ·have hx := hx (by rw [decide_eq_true qa, decide_eq_false qs]; rfl)
    subst hx
    refine gob ?_
    refine brY ?_ (h := by show (!((aB a s).eqb (aB 0 (zB 32)))) = true; rw [dJ, decide_eq_false qs, Bool.and_false]; rfl)
    refine gob ?_
    refine aI [0]
  ·refine brN ?_ (decide_eq_false qa)
   refine gob ?_
   refine bB (8, (D.node [aB (u4G bs 0) ((bs.drop 4).take 32), aB (u4G bs 36) ((bs.drop 40).take 32), aB (u4G bs 72) ((bs.drop 76).take 32), aB (u4G bs 108) ((bs.drop 112).take 32), aB (u4G bs 144) ((bs.drop 148).take 32), aB (u4G bs 180) ((bs.drop 184).take 32), aB (u4G bs 216) ((bs.drop 220).take 32), aB a s])) [0, 1, 2, 3] aK (h1 := ⟨Nat.le_of_ble_eq_true rfl, hy.symm, dQ (R := R) ⟨hall, by rw [hb, decide_eq_false qa]; rfl⟩⟩) (h2 := (by decide : 8 - 8 < 8 - 7))
 ·subst hd
  have hx := aD9 hall
  rw [hR] at hx
  subst hx
  refine gob ?_
  refine aA e1 [0, 3] ?_
  refine aA e2 [0, 3] ?_
  refine aI [0]
theorem qT {Q : B8} (h : 288 ≤ Q.length) : ∃ (a0 a1 a2 a3 a4 a5 a6 a7 : BitVec 32) (s0 s1 s2 s3 s4 s5 s6 s7 : B8), aGK Q = eR a0 a1 a2 a3 a4 a5 a6 a7 s0 s1 s2 s3 s4 s5 s6 s7 ∧ s0.length = 32 ∧ s1.length = 32 ∧ s2.length = 32 ∧ s3.length = 32 ∧ s4.length = 32 ∧ s5.length = 32 ∧ s6.length = 32 ∧ s7.length = 32 := by
 have l : ∀ o, o + 32 ≤ 288 → ((Q.drop o).take 32).length = 32 := fun o ho => by rw [List.length_take, List.length_drop]; omega
 exact ⟨_, _, _, _, _, _, _, _, _, _, _, _, _, _, _, _, rfl, l 4 (by decide), l 40 (by decide), l 76 (by decide), l 112 (by decide), l 148 (by decide), l 184 (by decide), l 220 (by decide), l 256 (by decide)⟩
theorem aHl : AC Tryz.prog 50 [iO] 0 [] ⟨.slice 0 [] 0 288 none, [], [(.row .cell, .u8s (bA 0 0 0 0 0 0 0 0 (zB 32) (zB 32) (zB 32) (zB 32) (zB 32) (zB 32) (zB 32) (zB 32)))]⟩ :=
 oO 0 0 0 0 0 0 0 0 (zB 32) (zB 32) (zB 32) (zB 32) (zB 32) (zB 32) (zB 32) (zB 32) (by simp) (by simp) (by simp) (by simp) (by simp) (by simp) (by simp) (by simp)
theorem aBC (most N : Nat) (cap : Option Nat) (N2 : Nat) (cap2 : Option Nat) (ls : List Lo) (st p k : Nat) (hq : N < p + k) (hN : N < 70368744177664) (hp : p < 70368744177664) (hk : k < 70368744177664) :
  AC Tryz.prog 82 [.ptr 0 [], .i64 p, .i64 k] 4
   [(0, some ⟨tDv, dvD most N cap N2 cap2 (dU 3 ls) st, false⟩)]
   ⟨.tup [.nilslice, .i64 43], [], []⟩ := by
 have hu := uC most N cap N2 cap2 ls st
 by_cases h : N < p
 ·refine acA tab mix Tryz.func82 {} ?_
  cases ls
  all_goals
   refine gob ?_
   refine aA hu [0, 1, 2, 3] ?_
   refine aI [0, 1, 2, 3]
 ·refine acA tab mix Tryz.func82 {} ?_
  cases ls
  all_goals
   refine gob ?_
   refine aA hu [0, 1, 2, 3] ?_
   refine aI [0, 1, 2, 3]
section
variable (most N : Nat) (cap : Option Nat) (N2 : Nat) (cap2 : Option Nat) (ls : List Lo)
include most N cap N2 cap2 ls
section
variable (st p o k : Nat) (cap3 : Option Nat) (S S2 B : B8) (hS : S.length = N) (hS2 : S2.length = N2) (hp0 : p ≤ N)
include st p o k cap3 S S2 B hS hS2 hp0
theorem aEc (hp : p + k ≤ N) (hp2 : p + k ≤ N2) (hB : o + k ≤ B.length) (h0 : 0 < k) (hf : p + k ≤ most) (hN : N ≤ most) (hN2 : N2 ≤ most) (hm : most ≤ 16777216) :
  AC Tryz.prog 21 [.ptr 0 [], .i64 p, .slice 4 [] o k cap3] 5
   [(0, some ⟨tDv, dvD most N cap N2 cap2 (dU 3 ls) st, true⟩), (1, some ⟨.row .cell, .u8s S, true⟩), (2, some ⟨.row .cell, .u8s S2, true⟩), (4, some ⟨.row .cell, .u8s B, false⟩)]
   ⟨.tup [], [(0, some (.node [.i64 most, .slice 1 [] 0 N cap, .slice 2 [] 0 N2 cap2, dU 3 ls, .i64 st, .bool false, .nilptr])), (1, some (.u8s (aV S ((B.drop o).take k) p))), (2, some (.u8s (aV S2 ((B.drop o).take k) p)))], []⟩ := by
 have hBl : ((B.drop o).take k).length = k := by rw [List.length_take, List.length_drop]; omega
 have l1 := s9 S B p o k N cap cap3 hS hp hB h0 (by omega)
 rw [← mI (S := S) (B := (B.drop o).take k) (p := p) (by rw [hBl]; omega)] at l1
 have l2 := s9 S2 B p o k N2 cap2 cap3 hS2 hp2 hB h0 (by omega)
 rw [← mI (S := S2) (B := (B.drop o).take k) (p := p) (by rw [hBl]; omega)] at l2
 generalize aV S ((B.drop o).take k) p = T at l1 ⊢
 generalize aV S2 ((B.drop o).take k) p = T2 at l2 ⊢
 refine acA tab mix Tryz.func21 {} ?_
 cases ls
 all_goals
  refine gob ?_
  refine aA l1 [1, 4] ?_
  refine aA l2 [2, 4] ?_
  refine aI [0, 1, 2, 3, 4]
theorem aEb (hp : p + k ≤ N) (hp2 : N2 < p + k) (hB : o + k ≤ B.length) (h0 : 0 < k) (hf : p + k ≤ most) (hN : N ≤ most) (hN2 : N2 ≤ most) (hm : most ≤ 16777216) :
  AC Tryz.prog 21 [.ptr 0 [], .i64 p, .slice 4 [] o k cap3] 5
   [(0, some ⟨tDv, dvD most N cap N2 cap2 (dU 3 ls) st, true⟩), (1, some ⟨.row .cell, .u8s S, true⟩), (2, some ⟨.row .cell, .u8s S2, true⟩), (4, some ⟨.row .cell, .u8s B, false⟩)]
   ⟨.tup [], [(0, some (.node [.i64 most, .slice 1 [] 0 N cap, .slice 5 [] 0 (p + k) none, dU 3 ls, .i64 st, .bool false, .nilptr])), (1, some (.u8s (aV S ((B.drop o).take k) p))), (2, none)], [(.row .cell, .u8s (aV S2 ((B.drop o).take k) p))]⟩ := by
 have hBl : ((B.drop o).take k).length = k := by rw [List.length_take, List.length_drop]; omega
 have l1 := s9 S B p o k N cap cap3 hS hp hB h0 (by omega)
 rw [← mI (S := S) (B := (B.drop o).take k) (p := p) (by rw [hBl]; omega)] at l1
 have l2 := oX S2 B p o k N2 cap2 cap3 hS2 hp2 hB h0 (by omega)
 generalize aV S ((B.drop o).take k) p = T at l1 ⊢
 generalize aV S2 ((B.drop o).take k) p = T2 at l2 ⊢
 refine acA tab mix Tryz.func21 {} ?_
 cases ls
 all_goals
  refine gob ?_
  refine aA l1 [1, 4] ?_
  refine aA l2 [2, 4] ?_
  refine aI [0, 1, 2, 3, 4, 5]
theorem aEa (hp : N < p + k) (hp2 : p + k ≤ N2) (hB : o + k ≤ B.length) (h0 : 0 < k) (hf : p + k ≤ most) (hN : N ≤ most) (hN2 : N2 ≤ most) (hm : most ≤ 16777216) :
  AC Tryz.prog 21 [.ptr 0 [], .i64 p, .slice 4 [] o k cap3] 5
   [(0, some ⟨tDv, dvD most N cap N2 cap2 (dU 3 ls) st, true⟩), (1, some ⟨.row .cell, .u8s S, true⟩), (2, some ⟨.row .cell, .u8s S2, true⟩), (4, some ⟨.row .cell, .u8s B, false⟩)]
   ⟨.tup [], [(0, some (.node [.i64 most, .slice 5 [] 0 (p + k) none, .slice 2 [] 0 N2 cap2, dU 3 ls, .i64 st, .bool false, .nilptr])), (1, none), (2, some (.u8s (aV S2 ((B.drop o).take k) p)))], [(.row .cell, .u8s (aV S ((B.drop o).take k) p))]⟩ := by
 have hBl : ((B.drop o).take k).length = k := by rw [List.length_take, List.length_drop]; omega
 have l1 := oX S B p o k N cap cap3 hS hp hB h0 (by omega)
 have l2 := s9 S2 B p o k N2 cap2 cap3 hS2 hp2 hB h0 (by omega)
 rw [← mI (S := S2) (B := (B.drop o).take k) (p := p) (by rw [hBl]; omega)] at l2
 generalize aV S ((B.drop o).take k) p = T at l1 ⊢
 generalize aV S2 ((B.drop o).take k) p = T2 at l2 ⊢
 refine acA tab mix Tryz.func21 {} ?_
 cases ls
 all_goals
  refine gob ?_
  refine aA l1 [1, 4] ?_
  refine aA l2 [2, 4] ?_
  refine aI [0, 1, 2, 3, 4, 5]
theorem aE9 (hp : N < p + k) (hp2 : N2 < p + k) (hB : o + k ≤ B.length) (h0 : 0 < k) (hf : p + k ≤ most) (hN : N ≤ most) (hN2 : N2 ≤ most) (hm : most ≤ 16777216) :
  AC Tryz.prog 21 [.ptr 0 [], .i64 p, .slice 4 [] o k cap3] 5
   [(0, some ⟨tDv, dvD most N cap N2 cap2 (dU 3 ls) st, true⟩), (1, some ⟨.row .cell, .u8s S, true⟩), (2, some ⟨.row .cell, .u8s S2, true⟩), (4, some ⟨.row .cell, .u8s B, false⟩)]
   ⟨.tup [], [(0, some (.node [.i64 most, .slice 5 [] 0 (p + k) none, .slice 6 [] 0 (p + k) none, dU 3 ls, .i64 st, .bool false, .nilptr])), (1, none), (2, none)], [(.row .cell, .u8s (aV S ((B.drop o).take k) p)), (.row .cell, .u8s (aV S2 ((B.drop o).take k) p))]⟩ := by
 have hBl : ((B.drop o).take k).length = k := by rw [List.length_take, List.length_drop]; omega
 have l1 := oX S B p o k N cap cap3 hS hp hB h0 (by omega)
 have l2 := oX S2 B p o k N2 cap2 cap3 hS2 hp2 hB h0 (by omega)
 generalize aV S ((B.drop o).take k) p = T at l1 ⊢
 generalize aV S2 ((B.drop o).take k) p = T2 at l2 ⊢
 refine acA tab mix Tryz.func21 {} ?_
 cases ls
 all_goals
  refine gob ?_
  refine aA l1 [1, 4] ?_
  refine aA l2 [2, 4] ?_
  refine aI [0, 1, 2, 3, 4, 5, 6]
end
theorem aBO (st p k : Nat) (x : Option Nat) (hx : x = none → k = 0) (h : N < p ∨ most < p + k) (hN : N ≤ most) (hm : most ≤ 16777216) (hp : p < 4611686018427387904) (hk : k < 4611686018427387904) :
  AC Tryz.prog 21 [.ptr 0 [], .i64 p, slD 4 k x] 5 [(0, some ⟨tDv, dvD most N cap N2 cap2 (dU 3 ls) st, true⟩)] ⟨.tup [], [], []⟩ := by
 cases x with
 |none =>
  obtain rfl := hx rfl
  by_cases h1 : N < p
  ·refine acA tab mix Tryz.func21 {} ?_
   cases ls
   all_goals
    refine gob ?_
    refine aI [0, 1, 2, 3, 4]
  ·exfalso; omega
 |some c =>
  by_cases h1 : N < p
  ·refine acA tab mix Tryz.func21 {} ?_
   cases ls
   all_goals
    refine gob ?_
    refine aI [0, 1, 2, 3, 4]
  ·have h2 : most < p + k := by omega
   refine acA tab mix Tryz.func21 {} ?_
   cases ls
   all_goals
    refine gob ?_
    refine aI [0, 1, 2, 3, 4]
theorem aBN (st p : Nat) (x : Option Nat) (hp : p ≤ N) (hN : N ≤ most) (hm : most ≤ 16777216) :
  AC Tryz.prog 21 [.ptr 0 [], .i64 p, slD 4 0 x] 5 [(0, some ⟨tDv, dvD most N cap N2 cap2 (dU 3 ls) st, true⟩)] ⟨.tup [], [(0, some (dvD most N cap N2 cap2 (dU 3 ls) st))], []⟩ := by
 cases x with
 |none =>
  have l1 := nU (.slice 0 [] 0 N cap) p ⟨N, cap, rfl⟩ .nilslice (.inl rfl)
  have l2 := nU (.slice 0 [] 0 N2 cap2) p ⟨N2, cap2, rfl⟩ .nilslice (.inl rfl)
  refine acA tab mix Tryz.func21 {} ?_
  cases ls
  all_goals
   refine gob ?_
   refine aA l1 [1, 4] ?_
   refine aA l2 [2, 4] ?_
   refine aI [0, 1, 2, 3, 4]
 |some c =>
  have l1 := nU (.slice 0 [] 0 N cap) p ⟨N, cap, rfl⟩ (.slice 1 [] 0 0 (some c)) (.inr ⟨0, some c, rfl⟩)
  have l2 := nU (.slice 0 [] 0 N2 cap2) p ⟨N2, cap2, rfl⟩ (.slice 1 [] 0 0 (some c)) (.inr ⟨0, some c, rfl⟩)
  refine acA tab mix Tryz.func21 {} ?_
  cases ls
  all_goals
   refine gob ?_
   refine aA l1 [1, 4] ?_
   refine aA l2 [2, 4] ?_
   refine aI [0, 1, 2, 3, 4]
section
variable (st : Nat) (S : B8) (hS : S.length = N) (hN : N < 70368744177664)
include st S hS hN
theorem aHC :
  AC Tryz.prog 62 [.ptr 4 []] 5 [(0, some ⟨tDv, dvD most N cap N2 cap2 (dU 3 ls) st, true⟩), (1, some ⟨.row .cell, .u8s S, false⟩), (4, some ⟨.cell, .ptr 0 [], true⟩)]
   ⟨.tup [], [(0, some (.node [.i64 most, .slice 1 [] 0 N cap, .slice 5 [] 0 N none, .nilslice, .i64 st, .bool false, .nilptr]))], [(.row .cell, .u8s S)]⟩ := by
 have hc := lF S 0 N cap (by omega) (by omega)
 rw [List.drop_zero, List.take_of_length_le (by omega)] at hc
 refine acA tab mix Tryz.func62 {} ?_
 cases ls
 all_goals
  refine gob ?_
  refine aA hc [1] ?_
  refine aI [0, 1, 2, 3, 4, 5]
theorem aHD (hst : st < 1000) :
  AC Tryz.prog 61 [.ptr 0 [], .fn 62 [] [.ptr 4 []]] 5 [(0, some ⟨tDv, dvD most N cap N2 cap2 (dU 3 ls) st, true⟩), (1, some ⟨.row .cell, .u8s S, false⟩), (4, some ⟨.cell, .ptr 0 [], true⟩)]
   ⟨.i64 0, [(0, some (.node [.i64 most, .slice 1 [] 0 N cap, .slice 5 [] 0 N none, .nilslice, .i64 (st + 1), .bool false, .nilptr]))], [(.row .cell, .u8s S)]⟩ := by
 have hw := aHC most N cap N2 cap2 ls (st + 1) S hS hN
 refine acA tab mix Tryz.func61 {} ?_
 cases ls
 all_goals
  refine gob ?_
  refine aA hw [0, 1, 2, 3, 4] ?_
  refine aI [0, 1, 2, 3, 4, 5]
theorem aIL (hst : st < 1000) :
  AC Tryz.prog 23 [.ptr 0 []] 4 [(0, some ⟨tDv, dvD most N cap N2 cap2 (dU 3 ls) st, true⟩), (1, some ⟨.row .cell, .u8s S, false⟩)]
   ⟨.i64 0, [(0, some (.node [.i64 most, .slice 1 [] 0 N cap, .slice 4 [] 0 N none, .nilslice, .i64 (st + 1), .bool false, .nilptr]))], [(.row .cell, .u8s S)]⟩ := by
 have hu := uC most N cap N2 cap2 ls st
 have hs := aHD most N cap N2 cap2 ls st S hS hN hst
 refine acA tab mix Tryz.func23 {} ?_
 cases ls
 all_goals
  refine gob ?_
  refine aA hu [0, 1, 2, 3] ?_
  refine aA hs [0, 1, 2, 3, 4] ?_
  refine aI [0, 1, 2, 3, 5]
end
end
abbrev aGr (d x c p : Nat) (tag : B8) : D := .node [.ptr d [], aCZ c p, .ptr x [], .u8s tag]
abbrev fJ (c p : Nat) (tag : B8) (k1 k2 : List B8) (most N : Nat) (cap : Option Nat) (N2 : Nat) (cap2 : Option Nat) (ls : List Lo) (st : Nat) (S : B8) : Mem :=
 cX 3 ls ++ [(0, some ⟨tDv, dvD most N cap N2 cap2 (dU 3 ls) st, true⟩), (1, some ⟨.row .cell, .u8s S, true⟩), (4, some ⟨tSp, aGr 0 5 c p tag, true⟩), (5, some ⟨tX, .node [.ptr 6 [], .ptr 7 []], true⟩), (6, some ⟨tC, cH k1, true⟩), (7, some ⟨tC, cH k2, true⟩), gR]
def cG (p : Nat) (b : B8) : B8 := b ++ List.replicate (512 * p - b.length) 0
theorem bM {p : Nat} {b : B8} (h : b.length ≤ 512 * p) : (cG p b).length = 512 * p := by rw [cG, List.length_append, List.length_replicate]; omega
theorem bS (d x c p : Nat) (tag : B8) (hd : d < 3) (hx : x < 3) (hp : p ≤ 2) : AC Tryz.prog 36 [.ptr 0 []] 3 [(0, some ⟨tSp, aGr 1 2 c p tag, false⟩)] ⟨.i64 (512 * p : Nat), [], []⟩ := by
 have e : (((512 * p : Nat) : Int)) = (p : Int) * 512 := by omega
 rw [e]
 refine acA tab mix Tryz.func36 {} ?_
 refine gob ?_
 refine aI [0, 1, 2]
theorem bT (c p : Nat) (n : BitVec 32) (q : Nat) (hq : q = 8 + n.toNat * p) (hc : 1 ≤ c) (hc2 : c ≤ 64) (hp : 1 ≤ p) (hp2 : p ≤ 2) (hn : n.toNat ≤ 65535) : AC Tryz.prog 76 [aCZ c p, .u32 n] 0 [] ⟨.i64 (512 * q : Nat), [], []⟩ := by
 have h := aDR c p n hc hc2 hp hp2 hn
 rw [show ((8 + (n.toNat : Int) * (p : Int)) * 512) = ((512 * q : Nat) : Int) by rw [hq, ← Int.natCast_mul]; omega] at h
 exact h
theorem iJ (c p : Nat) (tag : B8) (n : BitVec 32) (q : Nat) (hq : q = 8 + n.toNat * p) (hc : 1 ≤ c) (hc2 : c ≤ 64) (hp : 1 ≤ p) (hp2 : p ≤ 2) (hn : n.toNat ≤ 65535) : AC Tryz.prog 38 [.ptr 0 [], .u32 n] 3 [(0, some ⟨tSp, aGr 1 2 c p tag, false⟩)] ⟨.u64 (BitVec.ofNat 64 q), [], []⟩ := by
 have h := bT c p n q hq hc hc2 hp hp2 hn
 have hql : q ≤ 200000 := by
  have := Nat.mul_le_mul hn hp2
  omega
 clear hq
 have e : Int.tdiv ((512 * q : Nat) : Int) 512 = ((q : Nat) : Int) := by
  have h0 : Int.tdiv ((512 * q : Nat) : Int) ((512 : Nat) : Int) = ((512 * q / 512 : Nat) : Int) := rfl
  have h1 : 512 * q / 512 = q := Nat.mul_div_cancel_left _ (by decide)
  rw [h1] at h0; exact h0
 have e2 : BitVec.ofNat 64 q = BitVec.ofInt 64 (Int.tdiv ((512 * q : Nat) : Int) 512) := by rw [e]; rfl
 rw [e2]
 have hI : inI (Int.tdiv ((512 * q : Nat) : Int) 512) := by rw [e]; unfold inI; omega
 clear e e2
 refine acA tab mix Tryz.func38 {} ?_
 refine gob ?_
 refine aA h [] ?_
 refine aI [0, 1, 2]
theorem nT (c p : Nat) (tag bs : B8) (n : BitVec 32) (o k : Nat) (cap : Option Nat) (ht : tag.length = 32) (h : o + k ≤ bs.length) (hk0 : 0 < k) (hk : k ≤ 10000000) :
  AC Tryz.prog 80 [.slice 0 [] o k cap, .ptr 1 [], .ptr 2 []] 6 [(0, some ⟨.row .cell, .u8s bs, false⟩), (1, some ⟨.cell, .ptr 3 [], false⟩), (2, some ⟨.cell, .u32 n, false⟩), (3, some ⟨tSp, aGr 4 5 c p tag, false⟩), gR] ⟨.u8s (bY tag n ((bs.drop o).take k)), [], []⟩ := by
 have h1 := aDW tag bs n o k cap ht h hk0 hk
 have hy := aR tag n ((bs.drop o).take k)
 generalize bY tag n ((bs.drop o).take k) = y at h1 hy ⊢
 refine acA tab mix Tryz.func80 {} ?_
 refine gob ?_
 refine aA h1 [0] ?_
 refine aI [0, 1, 2, 3, 4, 5]
def loP (S : B8) (q : Nat) : Nat → List Lo
 |2 => [loF S q, loF S (q + 1)]
 |_ => [loF S q]
section
variable (most N : Nat) (cap : Option Nat) (N2 : Nat) (cap2 : Option Nat) (ls : List Lo) (hls : ∀ x ∈ ls, x.bytes.length = 512) (st q o p : Nat) (hp1 : 1 ≤ p) (hp2 : p ≤ 2) (cap3 : Option Nat) (S B : B8) (hS : S.length = N)
include most N cap N2 cap2 ls hls st q o p hp1 hp2 cap3 S B hS
theorem mV (hq : 512 * q + 512 * p ≤ N) (hB : o + 512 * p ≤ B.length) (hN : N ≤ most) (hm : most ≤ 16777216) (hl : ls.length < 1000) (hst : st < 1000) :
  AC Tryz.prog 78 [.ptr 0 [], .i64 (512 * q : Nat), .slice 4 [] o (512 * p) cap3] 5
   (cX 3 ls ++ [(0, some ⟨tDv, dvD most N cap N2 cap2 (dU 3 ls) st, true⟩), (1, some ⟨.row .cell, .u8s S, true⟩), (4, some ⟨.row .cell, .u8s B, false⟩)])
   ⟨.i64 0, (cX 3 ls).map (fun p => (p.1, none)) ++ [(0, some (dvD most N cap N2 cap2 (.slice 5 [] 0 (ls.length + p) none) (st + 1))), (1, some (.u8s (aV S ((B.drop o).take (512 * p)) (512 * q))))], [(.row tLo, cQ (ls ++ loP (aV S ((B.drop o).take (512 * p)) (512 * q)) q p))]⟩ := by
 have : p = 1 ∨ p = 2 := by omega
 rcases this with rfl | rfl
 ·exact aBB most N cap N2 cap2 ls hls st q o cap3 S B hS hq hB hN hm hl hst
 ·have h := aBA most N cap N2 cap2 ls hls st q o cap3 S B hS hq hB hN hm hl hst
  rw [List.append_assoc] at h
  exact h
theorem mU (hq : N < 512 * q + 512 * p) (hB : o + 512 * p ≤ B.length) (hN : N ≤ most) (hm : most ≤ 16777216) (hq2 : 512 * q ≤ N) (hf : 512 * q + 512 * p ≤ most) (hl : ls.length < 1000) (hst : st < 1000) :
  AC Tryz.prog 78 [.ptr 0 [], .i64 (512 * q : Nat), .slice 4 [] o (512 * p) cap3] 5
   (cX 3 ls ++ [(0, some ⟨tDv, dvD most N cap N2 cap2 (dU 3 ls) st, true⟩), (1, some ⟨.row .cell, .u8s S, true⟩), (4, some ⟨.row .cell, .u8s B, false⟩)])
   ⟨.i64 0, (cX 3 ls).map (fun p => (p.1, none)) ++ [(0, some (.node [.i64 most, .slice 5 [] 0 (512 * q + 512 * p) none, .slice 2 [] 0 N2 cap2, .slice 6 [] 0 (ls.length + p) none, .i64 (st + 1), .bool false, .nilptr])), (1, none)], [(.row .cell, .u8s (aV S ((B.drop o).take (512 * p)) (512 * q))), (.row tLo, cQ (ls ++ loP (aV S ((B.drop o).take (512 * p)) (512 * q)) q p))]⟩ := by
 have : p = 1 ∨ p = 2 := by omega
 rcases this with rfl | rfl
 ·exact aAz most N cap N2 cap2 ls hls st q o cap3 S B hS hq hB hN hm hq2 hf hl hst
 ·have h := aAy most N cap N2 cap2 ls hls st q o cap3 S B hS hq hB hN hm hq2 hf hl hst
  rw [List.append_assoc] at h
  exact h
end
theorem hU (bs : B8) (o k p : Nat) (cap : Option Nat) (h : o + k ≤ bs.length) (hk : k ≤ 512 * p) (hp : p ≤ 2) :
  AC Tryz.prog 77 [.slice 0 [] o k cap, .i64 (512 * p : Nat)] 1 [(0, some ⟨.row .cell, .u8s bs, false⟩)] ⟨.tup [.slice 1 [] 0 (512 * p) none, .i64 0], [], [(.row .cell, .u8s (cG p ((bs.drop o).take k)))]⟩ := by
 have hbl : ((bs.drop o).take k).length = k := by rw [List.length_take, List.length_drop]; omega
 have h := aCO bs o k (512 * p) cap h hk (by omega)
 rw [show (bs.drop o).take k ++ List.replicate (512 * p - k) 0 = cG p ((bs.drop o).take k) by rw [cG, hbl]] at h
 exact h
theorem aHc (n : Nat) (z : B8) : List.take 0 z ++ [] ++ List.drop (0 + Nat.min 0 n) z = z := by
 rw [List.take_zero, List.nil_append, List.nil_append, show Nat.min 0 n = 0 from Nat.zero_min n, List.drop_zero]
theorem qQ (p : Nat) (hp1 : 1 ≤ p) (hp : p ≤ 2) : AC Tryz.prog 77 [.nilslice, .i64 (512 * p : Nat)] 0 [] ⟨.tup [.slice 0 [] 0 (512 * p) none, .i64 0], [], [(.row .cell, .u8s (zB (512 * p)))]⟩ := by
 have hle : 0 + Nat.min 0 (512 * p) ≤ (List.replicate (512 * p) (0 : BitVec 8)).length := by rw [List.length_replicate, show Nat.min 0 (512 * p) = 0 from Nat.zero_min _]; omega
 refine acA tab mix Tryz.func77 {} ?_
 refine gob ?_
 refine EffG.mk (And.intro ?_ ?_)
 ·(repeat' (first | exact trivial | refine And.intro ?_ ?_)) <;> first | omega | exact hle | rfl
 refine gob ?_
 refine aI [0] (h3 := ?_)
 (repeat' (first | exact trivial | refine And.intro ⟨_, rfl, rfl, ?_, id⟩ ?_ | refine And.intro ⟨_, rfl, rfl, ?_, fun _ => rfl⟩ ?_)) <;> exact congrArg D.u8s (aHc _ _)
section
variable (c p : Nat) (hp1 : 1 ≤ p) (hp2 : p ≤ 2) (f : Nat) (F : B8 → B8) (hF : ∀ b, (F b).length = 32) (hf : ∀ (bs : B8), bs.length = 512 * p → AC Tryz.prog f [.slice 0 [] 0 (512 * p) none] 1 [(0, some ⟨.row .cell, .u8s bs, false⟩), gR] ⟨.u8s (F bs), [], []⟩) (tag : B8) (k1 k2 : List B8) (most N : Nat) (cap : Option Nat) (N2 : Nat) (cap2 : Option Nat) (ls : List Lo) (st : Nat) (S : B8) (n : BitVec 32) (q : Nat)
include c p hp1 hp2 f F hF hf tag k1 k2 most N cap N2 cap2 ls st S n q
section
variable (B : B8) (o k : Nat) (cap3 : Option Nat) (hB : o + k ≤ B.length) (hk : k ≤ 512 * p) (hqn : q = 8 + n.toNat * p) (hc : 1 ≤ c) (hc2 : c ≤ 64) (ht : tag.length = 32) (hls : ∀ x ∈ ls, x.bytes.length = 512) (hS : S.length = N) (hn : n.toNat ≤ 65535)
include B o k cap3 hB hk hqn hc hc2 ht hls hS hn
theorem rT (hq : 512 * q + 512 * p ≤ N) (hN : N ≤ most) (hm : most ≤ 16777216) (hl : ls.length < 1000) (hst : st < 1000) :
  AC Tryz.prog 39 [.ptr 4 [], .u32 n, .slice 8 [] o k cap3, .fn f [] []] 9 (fJ c p tag k1 k2 most N cap N2 cap2 ls st S ++ [(8, some ⟨.row .cell, .u8s B, false⟩)])
   ⟨.tup [aB (n + 1) (F (cG p ((B.drop o).take k))), .i64 0], (cX 3 ls).map (fun p => (p.1, none)) ++ [(0, some (dvD most N cap N2 cap2 (.slice 9 [] 0 (ls.length + p) none) (st + 1))), (1, some (.u8s (aV S (cG p ((B.drop o).take k)) (512 * q))))], [(.row tLo, cQ (ls ++ loP (aV S (cG p ((B.drop o).take k)) (512 * q)) q p))]⟩ := by
 have hsz := bS 0 0 c p tag (by decide) (by decide) hp2
 have hpl := bT c p n q hqn hc hc2 hp1 hp2 hn
 have hql : q ≤ 200000 := by have := Nat.mul_le_mul hn hp2; omega
 clear hqn
 have hpd := hU B o k p cap3 hB hk hp2
 have hPl : (cG p ((B.drop o).take k)).length = 512 * p := bM (by rw [List.length_take]; omega)
 generalize cG p ((B.drop o).take k) = Q at hpd hPl ⊢
 have hw := mV most N cap N2 cap2 ls hls st q 0 p hp1 hp2 none S Q hS hq (by omega) hN hm hl hst
 rw [List.drop_zero, List.take_of_length_le (by omega)] at hw
 have hsum := hf Q hPl
 have hFl := hF Q
 generalize F Q = sum at hsum hFl ⊢
 generalize aV S Q (512 * q) = S' at hw ⊢
 refine acA tab mix Tryz.func39 {} ?_
 cases ls
 all_goals
  refine gob ?_
  refine brN ?_ (decide_eq_false (show ¬ 65535 < n.toNat by omega))
  refine gob ?_
  refine aA hsz [4, 0, 5] ?_
  refine aA hpd [8] ?_
  refine aA hpl [] ?_
  refine aA hw [0, 1, 2, 3, 10] ?_
  refine aA hsum [10] ?_
  refine aI [0, 1, 2, 3, 4, 5, 6, 7, 8, 11]
theorem rS (hq : N < 512 * q + 512 * p) (hq2 : 512 * q ≤ N) (hfu : 512 * q + 512 * p ≤ most) (hN : N ≤ most) (hm : most ≤ 16777216) (hl : ls.length < 1000) (hst : st < 1000) :
  AC Tryz.prog 39 [.ptr 4 [], .u32 n, .slice 8 [] o k cap3, .fn f [] []] 9 (fJ c p tag k1 k2 most N cap N2 cap2 ls st S ++ [(8, some ⟨.row .cell, .u8s B, false⟩)])
   ⟨.tup [aB (n + 1) (F (cG p ((B.drop o).take k))), .i64 0], (cX 3 ls).map (fun p => (p.1, none)) ++ [(0, some (.node [.i64 most, .slice 9 [] 0 (512 * q + 512 * p) none, .slice 2 [] 0 N2 cap2, .slice 10 [] 0 (ls.length + p) none, .i64 (st + 1), .bool false, .nilptr])), (1, none)], [(.row .cell, .u8s (aV S (cG p ((B.drop o).take k)) (512 * q))), (.row tLo, cQ (ls ++ loP (aV S (cG p ((B.drop o).take k)) (512 * q)) q p))]⟩ := by
 have hsz := bS 0 0 c p tag (by decide) (by decide) hp2
 have hpl := bT c p n q hqn hc hc2 hp1 hp2 hn
 have hql : q ≤ 200000 := by have := Nat.mul_le_mul hn hp2; omega
 clear hqn
 have hpd := hU B o k p cap3 hB hk hp2
 have hPl : (cG p ((B.drop o).take k)).length = 512 * p := bM (by rw [List.length_take]; omega)
 generalize cG p ((B.drop o).take k) = Q at hpd hPl ⊢
 have hw := mU most N cap N2 cap2 ls hls st q 0 p hp1 hp2 none S Q hS hq (by omega) hN hm hq2 hfu hl hst
 rw [List.drop_zero, List.take_of_length_le (by omega)] at hw
 have hsum := hf Q hPl
 have hFl := hF Q
 generalize F Q = sum at hsum hFl ⊢
 generalize aV S Q (512 * q) = S' at hw ⊢
 refine acA tab mix Tryz.func39 {} ?_
 cases ls
 all_goals
  refine gob ?_
  refine brN ?_ (decide_eq_false (show ¬ 65535 < n.toNat by omega))
  refine gob ?_
  refine aA hsz [4, 0, 5] ?_
  refine aA hpd [8] ?_
  refine aA hpl [] ?_
  refine aA hw [0, 1, 2, 3, 10] ?_
  refine aA hsum [10] ?_
  refine aI [0, 1, 2, 3, 4, 5, 6, 7, 8, 11, 12]
theorem rQ (hq : N < 512 * q) (hN : N ≤ most) (hm : most ≤ 16777216) (hl : ls.length < 1000) (hst : st < 1000) :
  AC Tryz.prog 39 [.ptr 4 [], .u32 n, .slice 8 [] o k cap3, .fn f [] []] 9 (fJ c p tag k1 k2 most N cap N2 cap2 ls st S ++ [(8, some ⟨.row .cell, .u8s B, false⟩)])
   ⟨.tup [aB 0 (List.replicate 32 0), .i64 40], [], []⟩ := by
 have hsz := bS 0 0 c p tag (by decide) (by decide) hp2
 have hpl := bT c p n q hqn hc hc2 hp1 hp2 hn
 have hql : q ≤ 200000 := by have := Nat.mul_le_mul hn hp2; omega
 clear hqn
 have hpd := hU B o k p cap3 hB hk hp2
 have hPl : (cG p ((B.drop o).take k)).length = 512 * p := bM (by rw [List.length_take]; omega)
 generalize cG p ((B.drop o).take k) = Q at hpd hPl ⊢
 have hw := o8 most N cap N2 cap2 ls st (512 * q) 0 (512 * p) none hq (by omega) (by omega)
 have htd := jP
 refine acA tab mix Tryz.func39 {} ?_
 cases ls
 all_goals
  refine gob ?_
  refine brN ?_ (decide_eq_false (show ¬ 65535 < n.toNat by omega))
  refine gob ?_
  refine aA hsz [4, 0, 5] ?_
  refine aA hpd [8] ?_
  refine aA hpl [] ?_
  refine aA hw [0, 1, 2, 3, 10] ?_
  refine aA htd [] ?_
  refine aI [0, 1, 2, 3, 4, 5, 6, 7, 8]
theorem rR (hq : 512 * q ≤ N) (hfu : most < 512 * q + 512 * p) (hN : N ≤ most) (hm : most ≤ 16777216) (hl : ls.length < 1000) (hst : st < 1000) :
  AC Tryz.prog 39 [.ptr 4 [], .u32 n, .slice 8 [] o k cap3, .fn f [] []] 9 (fJ c p tag k1 k2 most N cap N2 cap2 ls st S ++ [(8, some ⟨.row .cell, .u8s B, false⟩)])
   ⟨.tup [aB 0 (List.replicate 32 0), .i64 21], [], []⟩ := by
 have hsz := bS 0 0 c p tag (by decide) (by decide) hp2
 have hpl := bT c p n q hqn hc hc2 hp1 hp2 hn
 have hql : q ≤ 200000 := by have := Nat.mul_le_mul hn hp2; omega
 clear hqn
 have hpd := hU B o k p cap3 hB hk hp2
 have hPl : (cG p ((B.drop o).take k)).length = 512 * p := bM (by rw [List.length_take]; omega)
 generalize cG p ((B.drop o).take k) = Q at hpd hPl ⊢
 have hw := o9 most N cap N2 cap2 ls st (512 * q) 0 (512 * p) none hq hfu hN hm (by omega)
 have htd := aBb 21 (by decide)
 refine acA tab mix Tryz.func39 {} ?_
 cases ls
 all_goals
  refine gob ?_
  refine brN ?_ (decide_eq_false (show ¬ 65535 < n.toNat by omega))
  refine gob ?_
  refine aA hsz [4, 0, 5] ?_
  refine aA hpd [8] ?_
  refine aA hpl [] ?_
  refine aA hw [0, 1, 2, 3, 10] ?_
  refine aA htd [] ?_
  refine aI [0, 1, 2, 3, 4, 5, 6, 7, 8]
end
section
variable (hqn : q = 8 + n.toNat * p) (hc : 1 ≤ c) (hc2 : c ≤ 64) (ht : tag.length = 32) (hls : ∀ x ∈ ls, x.bytes.length = 512) (hS : S.length = N) (hn : n.toNat ≤ 65535)
include hqn hc hc2 ht hls hS hn
theorem aBj (hq : 512 * q + 512 * p ≤ N) (hN : N ≤ most) (hm : most ≤ 16777216) (hl : ls.length < 1000) (hst : st < 1000) :
  AC Tryz.prog 39 [.ptr 4 [], .u32 n, .nilslice, .fn f [] []] 8 (fJ c p tag k1 k2 most N cap N2 cap2 ls st S)
   ⟨.tup [aB (n + 1) (F (zB (512 * p))), .i64 0], (cX 3 ls).map (fun p => (p.1, none)) ++ [(0, some (dvD most N cap N2 cap2 (.slice 8 [] 0 (ls.length + p) none) (st + 1))), (1, some (.u8s (aV S (zB (512 * p)) (512 * q))))], [(.row tLo, cQ (ls ++ loP (aV S (zB (512 * p)) (512 * q)) q p))]⟩ := by
 have hsz := bS 0 0 c p tag (by decide) (by decide) hp2
 have hpl := bT c p n q hqn hc hc2 hp1 hp2 hn
 have hql : q ≤ 200000 := by have := Nat.mul_le_mul hn hp2; omega
 clear hqn
 have hpd := qQ p hp1 hp2
 have hPl : (zB (512 * p)).length = 512 * p := by simp
 generalize zB (512 * p) = Q at hpd hPl ⊢
 have hw := mV most N cap N2 cap2 ls hls st q 0 p hp1 hp2 none S Q hS hq (by omega) hN hm hl hst
 rw [List.drop_zero, List.take_of_length_le (by omega)] at hw
 have hsum := hf Q hPl
 have hFl := hF Q
 generalize F Q = sum at hsum hFl ⊢
 generalize aV S Q (512 * q) = S' at hw ⊢
 refine acA tab mix Tryz.func39 {} ?_
 cases ls
 all_goals
  refine gob ?_
  refine brN ?_ (decide_eq_false (show ¬ 65535 < n.toNat by omega))
  refine gob ?_
  refine aA hsz [4, 0, 5] ?_
  refine aA hpd [] ?_
  refine aA hpl [] ?_
  refine aA hw [0, 1, 2, 3, 9] ?_
  refine aA hsum [9] ?_
  refine aI [0, 1, 2, 3, 4, 5, 6, 7, 10]
theorem aBi (hq : N < 512 * q + 512 * p) (hq2 : 512 * q ≤ N) (hfu : 512 * q + 512 * p ≤ most) (hN : N ≤ most) (hm : most ≤ 16777216) (hl : ls.length < 1000) (hst : st < 1000) :
  AC Tryz.prog 39 [.ptr 4 [], .u32 n, .nilslice, .fn f [] []] 8 (fJ c p tag k1 k2 most N cap N2 cap2 ls st S)
   ⟨.tup [aB (n + 1) (F (zB (512 * p))), .i64 0], (cX 3 ls).map (fun p => (p.1, none)) ++ [(0, some (.node [.i64 most, .slice 8 [] 0 (512 * q + 512 * p) none, .slice 2 [] 0 N2 cap2, .slice 9 [] 0 (ls.length + p) none, .i64 (st + 1), .bool false, .nilptr])), (1, none)], [(.row .cell, .u8s (aV S (zB (512 * p)) (512 * q))), (.row tLo, cQ (ls ++ loP (aV S (zB (512 * p)) (512 * q)) q p))]⟩ := by
 have hsz := bS 0 0 c p tag (by decide) (by decide) hp2
 have hpl := bT c p n q hqn hc hc2 hp1 hp2 hn
 have hql : q ≤ 200000 := by have := Nat.mul_le_mul hn hp2; omega
 clear hqn
 have hpd := qQ p hp1 hp2
 have hPl : (zB (512 * p)).length = 512 * p := by simp
 generalize zB (512 * p) = Q at hpd hPl ⊢
 have hw := mU most N cap N2 cap2 ls hls st q 0 p hp1 hp2 none S Q hS hq (by omega) hN hm hq2 hfu hl hst
 rw [List.drop_zero, List.take_of_length_le (by omega)] at hw
 have hsum := hf Q hPl
 have hFl := hF Q
 generalize F Q = sum at hsum hFl ⊢
 generalize aV S Q (512 * q) = S' at hw ⊢
 refine acA tab mix Tryz.func39 {} ?_
 cases ls
 all_goals
  refine gob ?_
  refine brN ?_ (decide_eq_false (show ¬ 65535 < n.toNat by omega))
  refine gob ?_
  refine aA hsz [4, 0, 5] ?_
  refine aA hpd [] ?_
  refine aA hpl [] ?_
  refine aA hw [0, 1, 2, 3, 9] ?_
  refine aA hsum [9] ?_
  refine aI [0, 1, 2, 3, 4, 5, 6, 7, 10, 11]
theorem aBg (hq : N < 512 * q) (hN : N ≤ most) (hm : most ≤ 16777216) (hl : ls.length < 1000) (hst : st < 1000) :
  AC Tryz.prog 39 [.ptr 4 [], .u32 n, .nilslice, .fn f [] []] 8 (fJ c p tag k1 k2 most N cap N2 cap2 ls st S)
   ⟨.tup [aB 0 (List.replicate 32 0), .i64 40], [], []⟩ := by
 have hsz := bS 0 0 c p tag (by decide) (by decide) hp2
 have hpl := bT c p n q hqn hc hc2 hp1 hp2 hn
 have hql : q ≤ 200000 := by have := Nat.mul_le_mul hn hp2; omega
 clear hqn
 have hpd := qQ p hp1 hp2
 have hPl : (zB (512 * p)).length = 512 * p := by simp
 generalize zB (512 * p) = Q at hpd hPl ⊢
 have hw := o8 most N cap N2 cap2 ls st (512 * q) 0 (512 * p) none hq (by omega) (by omega)
 have htd := jP
 refine acA tab mix Tryz.func39 {} ?_
 cases ls
 all_goals
  refine gob ?_
  refine brN ?_ (decide_eq_false (show ¬ 65535 < n.toNat by omega))
  refine gob ?_
  refine aA hsz [4, 0, 5] ?_
  refine aA hpd [] ?_
  refine aA hpl [] ?_
  refine aA hw [0, 1, 2, 3, 9] ?_
  refine aA htd [] ?_
  refine aI [0, 1, 2, 3, 4, 5, 6, 7]
theorem aBh (hq : 512 * q ≤ N) (hfu : most < 512 * q + 512 * p) (hN : N ≤ most) (hm : most ≤ 16777216) (hl : ls.length < 1000) (hst : st < 1000) :
  AC Tryz.prog 39 [.ptr 4 [], .u32 n, .nilslice, .fn f [] []] 8 (fJ c p tag k1 k2 most N cap N2 cap2 ls st S)
   ⟨.tup [aB 0 (List.replicate 32 0), .i64 21], [], []⟩ := by
 have hsz := bS 0 0 c p tag (by decide) (by decide) hp2
 have hpl := bT c p n q hqn hc hc2 hp1 hp2 hn
 have hql : q ≤ 200000 := by have := Nat.mul_le_mul hn hp2; omega
 clear hqn
 have hpd := qQ p hp1 hp2
 have hPl : (zB (512 * p)).length = 512 * p := by simp
 generalize zB (512 * p) = Q at hpd hPl ⊢
 have hw := o9 most N cap N2 cap2 ls st (512 * q) 0 (512 * p) none hq hfu hN hm (by omega)
 have htd := aBb 21 (by decide)
 refine acA tab mix Tryz.func39 {} ?_
 cases ls
 all_goals
  refine gob ?_
  refine brN ?_ (decide_eq_false (show ¬ 65535 < n.toNat by omega))
  refine gob ?_
  refine aA hsz [4, 0, 5] ?_
  refine aA hpd [] ?_
  refine aA hpl [] ?_
  refine aA hw [0, 1, 2, 3, 9] ?_
  refine aA htd [] ?_
  refine aI [0, 1, 2, 3, 4, 5, 6, 7]
end
end
section
variable (c p : Nat) (hp1 : 1 ≤ p) (hp2 : p ≤ 2) (tag : B8) (k1 k2 : List B8) (most N : Nat) (cap : Option Nat) (N2 : Nat) (cap2 : Option Nat) (ls : List Lo) (st : Nat) (S : B8) (n : BitVec 32) (q : Nat) (m : BitVec 32) (B : B8) (hBl : B.length = 512 * p) (hqn : q = 8 + n.toNat * p) (hc : 1 ≤ c) (hc2 : c ≤ 64) (ht : tag.length = 32) (hls : ∀ x ∈ ls, x.bytes.length = 512) (hS : S.length = N) (hn : n.toNat ≤ 65535)
include c p hp1 hp2 tag k1 k2 most N cap N2 cap2 ls st S n q m B hBl hqn hc hc2 ht hls hS hn
theorem aBn (hq : 512 * q + 512 * p ≤ N) (hN : N ≤ most) (hm : most ≤ 16777216) (hl : ls.length < 1000) (hst : st < 1000) :
  AC Tryz.prog 39 [.ptr 4 [], .u32 n, .slice 8 [] 0 (512 * p) none, .fn 80 [] [.ptr 9 [], .ptr 10 []]] 11 (fJ c p tag k1 k2 most N cap N2 cap2 ls st S ++ [(8, some ⟨.row .cell, .u8s B, false⟩), (9, some ⟨.cell, .ptr 4 [], true⟩), (10, some ⟨.cell, .u32 m, true⟩)])
   ⟨.tup [aB (n + 1) (bY tag m B), .i64 0], (cX 3 ls).map (fun p => (p.1, none)) ++ [(0, some (dvD most N cap N2 cap2 (.slice 11 [] 0 (ls.length + p) none) (st + 1))), (1, some (.u8s (aV S B (512 * q))))], [(.row tLo, cQ (ls ++ loP (aV S B (512 * q)) q p))]⟩ := by
 have hsz := bS 0 0 c p tag (by decide) (by decide) hp2
 have hpl := bT c p n q hqn hc hc2 hp1 hp2 hn
 have hql : q ≤ 200000 := by have := Nat.mul_le_mul hn hp2; omega
 clear hqn
 have hpd := hU B 0 (512 * p) p none (by omega) (Nat.le_refl _) hp2
 have hPl : B.length = 512 * p := hBl
 rw [show cG p ((B.drop 0).take (512 * p)) = B by rw [List.drop_zero, List.take_of_length_le (by omega), cG, hBl, Nat.sub_self, List.replicate_zero, List.append_nil]] at hpd
 skip
 have hw := mV most N cap N2 cap2 ls hls st q 0 p hp1 hp2 none S B hS hq (by omega) hN hm hl hst
 rw [List.drop_zero, List.take_of_length_le (by omega)] at hw
 have hsum := nT c p tag B m 0 (512 * p) none ht (by omega) (by omega) (by omega)
 rw [List.drop_zero, List.take_of_length_le (by omega)] at hsum
 have hFl := aR tag m B
 generalize bY tag m B = sum at hsum hFl ⊢
 generalize aV S B (512 * q) = S' at hw ⊢
 refine acA tab mix Tryz.func39 {} ?_
 cases ls
 all_goals
  refine gob ?_
  refine brN ?_ (decide_eq_false (show ¬ 65535 < n.toNat by omega))
  refine gob ?_
  refine aA hsz [4, 0, 5] ?_
  refine aA hpd [8] ?_
  refine aA hpl [] ?_
  refine aA hw [0, 1, 2, 3, 12] ?_
  refine aA hsum [12, 9, 10, 4, 0, 5] ?_
  refine aI [0, 1, 2, 3, 4, 5, 6, 7, 8, 9, 10, 13]
theorem aBm (hq : N < 512 * q + 512 * p) (hq2 : 512 * q ≤ N) (hfu : 512 * q + 512 * p ≤ most) (hN : N ≤ most) (hm : most ≤ 16777216) (hl : ls.length < 1000) (hst : st < 1000) :
  AC Tryz.prog 39 [.ptr 4 [], .u32 n, .slice 8 [] 0 (512 * p) none, .fn 80 [] [.ptr 9 [], .ptr 10 []]] 11 (fJ c p tag k1 k2 most N cap N2 cap2 ls st S ++ [(8, some ⟨.row .cell, .u8s B, false⟩), (9, some ⟨.cell, .ptr 4 [], true⟩), (10, some ⟨.cell, .u32 m, true⟩)])
   ⟨.tup [aB (n + 1) (bY tag m B), .i64 0], (cX 3 ls).map (fun p => (p.1, none)) ++ [(0, some (.node [.i64 most, .slice 11 [] 0 (512 * q + 512 * p) none, .slice 2 [] 0 N2 cap2, .slice 12 [] 0 (ls.length + p) none, .i64 (st + 1), .bool false, .nilptr])), (1, none)], [(.row .cell, .u8s (aV S B (512 * q))), (.row tLo, cQ (ls ++ loP (aV S B (512 * q)) q p))]⟩ := by
 have hsz := bS 0 0 c p tag (by decide) (by decide) hp2
 have hpl := bT c p n q hqn hc hc2 hp1 hp2 hn
 have hql : q ≤ 200000 := by have := Nat.mul_le_mul hn hp2; omega
 clear hqn
 have hpd := hU B 0 (512 * p) p none (by omega) (Nat.le_refl _) hp2
 have hPl : B.length = 512 * p := hBl
 rw [show cG p ((B.drop 0).take (512 * p)) = B by rw [List.drop_zero, List.take_of_length_le (by omega), cG, hBl, Nat.sub_self, List.replicate_zero, List.append_nil]] at hpd
 skip
 have hw := mU most N cap N2 cap2 ls hls st q 0 p hp1 hp2 none S B hS hq (by omega) hN hm hq2 hfu hl hst
 rw [List.drop_zero, List.take_of_length_le (by omega)] at hw
 have hsum := nT c p tag B m 0 (512 * p) none ht (by omega) (by omega) (by omega)
 rw [List.drop_zero, List.take_of_length_le (by omega)] at hsum
 have hFl := aR tag m B
 generalize bY tag m B = sum at hsum hFl ⊢
 generalize aV S B (512 * q) = S' at hw ⊢
 refine acA tab mix Tryz.func39 {} ?_
 cases ls
 all_goals
  refine gob ?_
  refine brN ?_ (decide_eq_false (show ¬ 65535 < n.toNat by omega))
  refine gob ?_
  refine aA hsz [4, 0, 5] ?_
  refine aA hpd [8] ?_
  refine aA hpl [] ?_
  refine aA hw [0, 1, 2, 3, 12] ?_
  refine aA hsum [12, 9, 10, 4, 0, 5] ?_
  refine aI [0, 1, 2, 3, 4, 5, 6, 7, 8, 9, 10, 13, 14]
theorem aBk (hq : N < 512 * q) (hN : N ≤ most) (hm : most ≤ 16777216) (hl : ls.length < 1000) (hst : st < 1000) :
  AC Tryz.prog 39 [.ptr 4 [], .u32 n, .slice 8 [] 0 (512 * p) none, .fn 80 [] [.ptr 9 [], .ptr 10 []]] 11 (fJ c p tag k1 k2 most N cap N2 cap2 ls st S ++ [(8, some ⟨.row .cell, .u8s B, false⟩), (9, some ⟨.cell, .ptr 4 [], true⟩), (10, some ⟨.cell, .u32 m, true⟩)])
   ⟨.tup [aB 0 (List.replicate 32 0), .i64 40], [], []⟩ := by
 have hsz := bS 0 0 c p tag (by decide) (by decide) hp2
 have hpl := bT c p n q hqn hc hc2 hp1 hp2 hn
 have hql : q ≤ 200000 := by have := Nat.mul_le_mul hn hp2; omega
 clear hqn
 have hpd := hU B 0 (512 * p) p none (by omega) (Nat.le_refl _) hp2
 have hPl : B.length = 512 * p := hBl
 rw [show cG p ((B.drop 0).take (512 * p)) = B by rw [List.drop_zero, List.take_of_length_le (by omega), cG, hBl, Nat.sub_self, List.replicate_zero, List.append_nil]] at hpd
 skip
 have hw := o8 most N cap N2 cap2 ls st (512 * q) 0 (512 * p) none hq (by omega) (by omega)
 have htd := jP
 refine acA tab mix Tryz.func39 {} ?_
 cases ls
 all_goals
  refine gob ?_
  refine brN ?_ (decide_eq_false (show ¬ 65535 < n.toNat by omega))
  refine gob ?_
  refine aA hsz [4, 0, 5] ?_
  refine aA hpd [8] ?_
  refine aA hpl [] ?_
  refine aA hw [0, 1, 2, 3, 12] ?_
  refine aA htd [] ?_
  refine aI [0, 1, 2, 3, 4, 5, 6, 7, 8, 9, 10]
theorem aBl (hq : 512 * q ≤ N) (hfu : most < 512 * q + 512 * p) (hN : N ≤ most) (hm : most ≤ 16777216) (hl : ls.length < 1000) (hst : st < 1000) :
  AC Tryz.prog 39 [.ptr 4 [], .u32 n, .slice 8 [] 0 (512 * p) none, .fn 80 [] [.ptr 9 [], .ptr 10 []]] 11 (fJ c p tag k1 k2 most N cap N2 cap2 ls st S ++ [(8, some ⟨.row .cell, .u8s B, false⟩), (9, some ⟨.cell, .ptr 4 [], true⟩), (10, some ⟨.cell, .u32 m, true⟩)])
   ⟨.tup [aB 0 (List.replicate 32 0), .i64 21], [], []⟩ := by
 have hsz := bS 0 0 c p tag (by decide) (by decide) hp2
 have hpl := bT c p n q hqn hc hc2 hp1 hp2 hn
 have hql : q ≤ 200000 := by have := Nat.mul_le_mul hn hp2; omega
 clear hqn
 have hpd := hU B 0 (512 * p) p none (by omega) (Nat.le_refl _) hp2
 have hPl : B.length = 512 * p := hBl
 rw [show cG p ((B.drop 0).take (512 * p)) = B by rw [List.drop_zero, List.take_of_length_le (by omega), cG, hBl, Nat.sub_self, List.replicate_zero, List.append_nil]] at hpd
 skip
 have hw := o9 most N cap N2 cap2 ls st (512 * q) 0 (512 * p) none hq hfu hN hm (by omega)
 have htd := aBb 21 (by decide)
 refine acA tab mix Tryz.func39 {} ?_
 cases ls
 all_goals
  refine gob ?_
  refine brN ?_ (decide_eq_false (show ¬ 65535 < n.toNat by omega))
  refine gob ?_
  refine aA hsz [4, 0, 5] ?_
  refine aA hpd [8] ?_
  refine aA hpl [] ?_
  refine aA hw [0, 1, 2, 3, 12] ?_
  refine aA htd [] ?_
  refine aI [0, 1, 2, 3, 4, 5, 6, 7, 8, 9, 10]
end
def eD (k1 k2 : List B8) (bs : B8) (o q p : Nat) : B8 := ovI (oJ k1) k2 bs o (BitVec.ofNat 64 q) p
def aA6 (k1 k2 : List B8) (bs : B8) (q p : Nat) : B8 := ovI (iH k1) k2 bs 0 (BitVec.ofNat 64 q) p
theorem cL {k1 : List B8} (k2 : List B8) {bs : B8} {o q p : Nat} (h : o + 512 * p ≤ bs.length) : (eD k1 k2 bs o q p).length = 512 * p := r6 k1 k2 bs o p _ h
theorem pP {k1 : List B8} (k2 : List B8) {bs : B8} {q p : Nat} (h : 512 * p ≤ bs.length) : (aA6 k1 k2 bs q p).length = 512 * p := aCQ k1 k2 bs 0 p _ (by omega)
section
variable (p : Nat) (hp1 : 1 ≤ p) (hp2 : p ≤ 2) (bs : B8) (h : bs.length = 512 * p)
include p hp1 hp2 bs h
theorem gE : AC Tryz.prog 56 [.slice 0 [] 0 (512 * p) none] 1 [(0, some ⟨.row .cell, .u8s bs, false⟩), gR] ⟨.u8s (b7 bs), [], []⟩ := by
 have := aHm bs 0 (512 * p) none (by omega) (by omega) (by omega)
 rw [List.drop_zero, List.take_of_length_le (by omega)] at this
 exact this
theorem mD : AC Tryz.prog 49 [.slice 0 [] 0 (512 * p) none] 1 [(0, some ⟨.row .cell, .u8s bs, false⟩), gR] ⟨.u8s (dL bs), [], []⟩ := by
 have := aJ8 bs 0 (512 * p) none (by omega) (by omega) (by omega)
 rw [List.drop_zero, List.take_of_length_le (by omega)] at this
 exact this
end
theorem aJ4 (o k p : Nat) (cap : Option Nat) (hk : 512 * p < k) (hp : p ≤ 2) :
  AC Tryz.prog 77 [.slice 0 [] o k cap, .i64 (512 * p : Nat)] 1 [] ⟨.tup [.nilslice, .i64 5], [], []⟩ := by
 refine acA tab mix Tryz.func77 {} ?_
 refine gob ?_
 refine aI [0]
theorem zL (f : Nat) (n : BitVec 32) (hn : 65535 < n.toNat) (b : D) (hb : b = .nilslice ∨ ∃ (o k : Nat) (cap : Option Nat), b = .slice 1 [] o k cap) :
  AC Tryz.prog 39 [.ptr 0 [], .u32 n, b, .fn f [] []] 2 [] ⟨.tup [aB 0 (List.replicate 32 0), .i64 2], [], []⟩ := by
 rcases hb with rfl | ⟨o, k, cap, rfl⟩
 all_goals
  refine acA tab mix Tryz.func39 {} ?_
  refine gob ?_
  refine brY ?_ (h := decide_eq_true (show 65535 < n.toNat from hn))
  refine gob ?_
  refine aI [0, 1]
theorem aHF (f : Nat) (c p : Nat) (tag : B8) (n : BitVec 32) (hn : n.toNat ≤ 65535) (o k : Nat) (cap : Option Nat) (hk : 512 * p < k) (hp2 : p ≤ 2) :
  AC Tryz.prog 39 [.ptr 0 [], .u32 n, .slice 3 [] o k cap, .fn f [] []] 4 [(0, some ⟨tSp, aGr 1 2 c p tag, true⟩)] ⟨.tup [aB 0 (List.replicate 32 0), .i64 2], [], []⟩ := by
 have hsz := bS 0 0 c p tag (by decide) (by decide) hp2
 have hpd := aJ4 o k p cap hk hp2
 refine acA tab mix Tryz.func39 {} ?_
 refine gob ?_
 refine brN ?_ (decide_eq_false (show ¬ 65535 < n.toNat by omega))
 refine gob ?_
 refine aA hsz [0, 1, 2] ?_
 refine aA hpd [3] ?_
 refine aI [0, 1, 2, 3]
theorem f7 (n : BitVec 32) (hn : 65535 < n.toNat) (b : D) (hb : b = .nilslice ∨ ∃ (o k : Nat) (cap : Option Nat), b = .slice 1 [] o k cap) :
  AC Tryz.prog 28 [.ptr 0 [], .u32 n, b] 2 [] ⟨.tup [aB 0 (List.replicate 32 0), .i64 2], [], []⟩ := by
 have h := zL 56 n hn b hb
 rcases hb with rfl | ⟨o, k, cap, rfl⟩
 all_goals
  refine acA tab mix Tryz.func28 {} ?_
  refine gob ?_
  refine aA h [0, 1] ?_
  refine aI [0, 1]
section
variable (c p : Nat)
include c p
theorem zJ (tag : B8) (n : BitVec 32) (hn : n.toNat ≤ 65535) (o k : Nat) (cap : Option Nat) (hk : 512 * p < k) (hp2 : p ≤ 2) :
  AC Tryz.prog 28 [.ptr 0 [], .u32 n, .slice 3 [] o k cap] 4 [(0, some ⟨tSp, aGr 1 2 c p tag, true⟩)] ⟨.tup [aB 0 (List.replicate 32 0), .i64 2], [], []⟩ := by
 have h := aHF 56 c p tag n hn o k cap hk hp2
 refine acA tab mix Tryz.func28 {} ?_
 refine gob ?_
 refine aA h [0, 1, 2, 3] ?_
 refine aI [0, 1, 2, 3]
theorem rP (tag : B8) (n : BitVec 32) (k : Nat) (x : Option Nat) (hx : x = none → k = 0) (h : 65535 < n.toNat ∨ k ≠ 512 * p) (hp1 : 1 ≤ p) (hp2 : p ≤ 2) (hk : k < 9223372036854775808) :
  AC Tryz.prog 11 [.ptr 0 [], .u32 n, slD 3 k x] 4 [(0, some ⟨tSp, aGr 1 2 c p tag, true⟩)] ⟨.tup [aB 0 (List.replicate 32 0), .i64 2], [], []⟩ := by
 have hsz := bS 0 0 c p tag (by decide) (by decide) hp2
 by_cases hn : 65535 < n.toNat
 ·refine acA tab mix Tryz.func11 {} ?_
  refine gob ?_
  refine brY ?_ (h := decide_eq_true (show 65535 < n.toNat from hn))
  refine gob ?_
  refine aI [0, 1, 2, 3]
 ·have hk2 : k ≠ 512 * p := by rcases h with h | h; exact absurd h hn; exact h
  cases x with
  |none =>
   obtain rfl := hx rfl
   refine acA tab mix Tryz.func11 {} ?_
   refine gob ?_
   refine brN ?_ (decide_eq_false (show ¬ 65535 < n.toNat from hn))
   refine gob ?_
   refine aA hsz [0, 1, 2] ?_
   refine Br.yes (show (!decide (((0 : Nat) : Int) = ((512 * p : Nat) : Int))) = true by rw [decide_eq_false (by omega)]; rfl) ?_
   refine gob ?_
   refine aI [0, 1, 2, 3]
  |some cp =>
   refine acA tab mix Tryz.func11 {} ?_
   refine gob ?_
   refine brN ?_ (decide_eq_false (show ¬ 65535 < n.toNat from hn))
   refine gob ?_
   refine aA hsz [0, 1, 2] ?_
   refine Br.yes (show (!decide (((k : Nat) : Int) = ((512 * p : Nat) : Int))) = true by rw [decide_eq_false (by omega)]; rfl) ?_
   refine gob ?_
   refine aI [0, 1, 2, 3]
section
variable (hp1 : 1 ≤ p) (hp2 : p ≤ 2) (tag : B8) (k1 k2 : List B8) (most N : Nat) (cap : Option Nat) (N2 : Nat) (cap2 : Option Nat) (ls : List Lo) (st : Nat) (S : B8) (n : BitVec 32) (q : Nat)
include hp1 hp2 tag k1 k2 most N cap N2 cap2 ls st S n q
section
variable (B : B8) (o k : Nat) (cap3 : Option Nat) (hB : o + k ≤ B.length) (hk : k ≤ 512 * p) (hqn : q = 8 + n.toNat * p) (hc : 1 ≤ c) (hc2 : c ≤ 64) (ht : tag.length = 32) (hls : ∀ x ∈ ls, x.bytes.length = 512) (hS : S.length = N) (hn : n.toNat ≤ 65535)
include B o k cap3 hB hk hqn hc hc2 ht hls hS hn
set_option maxHeartbeats 1000000 in
theorem uH (hq : 512 * q + 512 * p ≤ N) (hN : N ≤ most) (hm : most ≤ 16777216) (hl : ls.length < 1000) (hst : st < 1000) :
  AC Tryz.prog 28 [.ptr 4 [], .u32 n, .slice 8 [] o k cap3] 9 (fJ c p tag k1 k2 most N cap N2 cap2 ls st S ++ [(8, some ⟨.row .cell, .u8s B, false⟩)])
   ⟨.tup [aB (n + 1) (b7 (cG p ((B.drop o).take k))), .i64 0], (cX 3 ls).map (fun p => (p.1, none)) ++ [(0, some (dvD most N cap N2 cap2 (.slice 9 [] 0 (ls.length + p) none) (st + 1))), (1, some (.u8s (aV S (cG p ((B.drop o).take k)) (512 * q))))], [(.row tLo, cQ (ls ++ loP (aV S (cG p ((B.drop o).take k)) (512 * q)) q p))]⟩ := by
 have hp := rT c p hp1 hp2 56 b7 aP (gE p hp1 hp2) tag k1 k2 most N cap N2 cap2 ls st S n q B o k cap3 hB hk hqn hc hc2 ht hls hS hn hq hN hm hl hst
 have hy := aP (cG p ((B.drop o).take k))
 generalize (cG p ((B.drop o).take k)) = Q at hp hy ⊢
 generalize b7 Q = y at hp hy ⊢
 generalize aV S Q (512 * q) = S' at hp ⊢
 clear hqn
 refine acA tab mix Tryz.func28 {} ?_
 cases ls
 all_goals
  refine gob ?_
  refine aA hp [0, 1, 2, 3, 4, 5, 6, 7, 8] ?_
  refine aI [0, 1, 2, 3, 4, 5, 6, 7, 8, 10]
set_option maxHeartbeats 1000000 in
theorem uG (hq : N < 512 * q + 512 * p) (hq2 : 512 * q ≤ N) (hfu : 512 * q + 512 * p ≤ most) (hN : N ≤ most) (hm : most ≤ 16777216) (hl : ls.length < 1000) (hst : st < 1000) :
  AC Tryz.prog 28 [.ptr 4 [], .u32 n, .slice 8 [] o k cap3] 9 (fJ c p tag k1 k2 most N cap N2 cap2 ls st S ++ [(8, some ⟨.row .cell, .u8s B, false⟩)])
   ⟨.tup [aB (n + 1) (b7 (cG p ((B.drop o).take k))), .i64 0], (cX 3 ls).map (fun p => (p.1, none)) ++ [(0, some (.node [.i64 most, .slice 9 [] 0 (512 * q + 512 * p) none, .slice 2 [] 0 N2 cap2, .slice 10 [] 0 (ls.length + p) none, .i64 (st + 1), .bool false, .nilptr])), (1, none)], [(.row .cell, .u8s (aV S (cG p ((B.drop o).take k)) (512 * q))), (.row tLo, cQ (ls ++ loP (aV S (cG p ((B.drop o).take k)) (512 * q)) q p))]⟩ := by
 have hp := rS c p hp1 hp2 56 b7 aP (gE p hp1 hp2) tag k1 k2 most N cap N2 cap2 ls st S n q B o k cap3 hB hk hqn hc hc2 ht hls hS hn hq hq2 hfu hN hm hl hst
 have hy := aP (cG p ((B.drop o).take k))
 generalize (cG p ((B.drop o).take k)) = Q at hp hy ⊢
 generalize b7 Q = y at hp hy ⊢
 generalize aV S Q (512 * q) = S' at hp ⊢
 clear hqn
 refine acA tab mix Tryz.func28 {} ?_
 cases ls
 all_goals
  refine gob ?_
  refine aA hp [0, 1, 2, 3, 4, 5, 6, 7, 8] ?_
  refine aI [0, 1, 2, 3, 4, 5, 6, 7, 8, 10, 11]
set_option maxHeartbeats 1000000 in
theorem uD (hq : N < 512 * q) (hN : N ≤ most) (hm : most ≤ 16777216) (hl : ls.length < 1000) (hst : st < 1000) :
  AC Tryz.prog 28 [.ptr 4 [], .u32 n, .slice 8 [] o k cap3] 9 (fJ c p tag k1 k2 most N cap N2 cap2 ls st S ++ [(8, some ⟨.row .cell, .u8s B, false⟩)])
   ⟨.tup [aB 0 (List.replicate 32 0), .i64 40], [], []⟩ := by
 have hp := rQ c p hp1 hp2 56 b7 aP (gE p hp1 hp2) tag k1 k2 most N cap N2 cap2 ls st S n q B o k cap3 hB hk hqn hc hc2 ht hls hS hn hq hN hm hl hst
 clear hqn
 refine acA tab mix Tryz.func28 {} ?_
 cases ls
 all_goals
  refine gob ?_
  refine aA hp [0, 1, 2, 3, 4, 5, 6, 7, 8] ?_
  refine aI [0, 1, 2, 3, 4, 5, 6, 7, 8]
set_option maxHeartbeats 1000000 in
theorem uE (hq : 512 * q ≤ N) (hfu : most < 512 * q + 512 * p) (hN : N ≤ most) (hm : most ≤ 16777216) (hl : ls.length < 1000) (hst : st < 1000) :
  AC Tryz.prog 28 [.ptr 4 [], .u32 n, .slice 8 [] o k cap3] 9 (fJ c p tag k1 k2 most N cap N2 cap2 ls st S ++ [(8, some ⟨.row .cell, .u8s B, false⟩)])
   ⟨.tup [aB 0 (List.replicate 32 0), .i64 21], [], []⟩ := by
 have hp := rR c p hp1 hp2 56 b7 aP (gE p hp1 hp2) tag k1 k2 most N cap N2 cap2 ls st S n q B o k cap3 hB hk hqn hc hc2 ht hls hS hn hq hfu hN hm hl hst
 clear hqn
 refine acA tab mix Tryz.func28 {} ?_
 cases ls
 all_goals
  refine gob ?_
  refine aA hp [0, 1, 2, 3, 4, 5, 6, 7, 8] ?_
  refine aI [0, 1, 2, 3, 4, 5, 6, 7, 8]
end
section
variable (hqn : q = 8 + n.toNat * p) (hc : 1 ≤ c) (hc2 : c ≤ 64) (ht : tag.length = 32) (hls : ∀ x ∈ ls, x.bytes.length = 512) (hS : S.length = N) (hn : n.toNat ≤ 65535)
include hqn hc hc2 ht hls hS hn
set_option maxHeartbeats 1000000 in
theorem rO (hq : 512 * q + 512 * p ≤ N) (hN : N ≤ most) (hm : most ≤ 16777216) (hl : ls.length < 1000) (hst : st < 1000) :
  AC Tryz.prog 28 [.ptr 4 [], .u32 n, .nilslice] 8 (fJ c p tag k1 k2 most N cap N2 cap2 ls st S)
   ⟨.tup [aB (n + 1) (b7 (zB (512 * p))), .i64 0], (cX 3 ls).map (fun p => (p.1, none)) ++ [(0, some (dvD most N cap N2 cap2 (.slice 8 [] 0 (ls.length + p) none) (st + 1))), (1, some (.u8s (aV S (zB (512 * p)) (512 * q))))], [(.row tLo, cQ (ls ++ loP (aV S (zB (512 * p)) (512 * q)) q p))]⟩ := by
 have hp := aBj c p hp1 hp2 56 b7 aP (gE p hp1 hp2) tag k1 k2 most N cap N2 cap2 ls st S n q  hqn hc hc2 ht hls hS hn hq hN hm hl hst
 have hy := aP (zB (512 * p))
 generalize (zB (512 * p)) = Q at hp hy ⊢
 generalize b7 Q = y at hp hy ⊢
 generalize aV S Q (512 * q) = S' at hp ⊢
 clear hqn
 refine acA tab mix Tryz.func28 {} ?_
 cases ls
 all_goals
  refine gob ?_
  refine aA hp [0, 1, 2, 3, 4, 5, 6, 7] ?_
  refine aI [0, 1, 2, 3, 4, 5, 6, 7, 9]
set_option maxHeartbeats 1000000 in
theorem rN (hq : N < 512 * q + 512 * p) (hq2 : 512 * q ≤ N) (hfu : 512 * q + 512 * p ≤ most) (hN : N ≤ most) (hm : most ≤ 16777216) (hl : ls.length < 1000) (hst : st < 1000) :
  AC Tryz.prog 28 [.ptr 4 [], .u32 n, .nilslice] 8 (fJ c p tag k1 k2 most N cap N2 cap2 ls st S)
   ⟨.tup [aB (n + 1) (b7 (zB (512 * p))), .i64 0], (cX 3 ls).map (fun p => (p.1, none)) ++ [(0, some (.node [.i64 most, .slice 8 [] 0 (512 * q + 512 * p) none, .slice 2 [] 0 N2 cap2, .slice 9 [] 0 (ls.length + p) none, .i64 (st + 1), .bool false, .nilptr])), (1, none)], [(.row .cell, .u8s (aV S (zB (512 * p)) (512 * q))), (.row tLo, cQ (ls ++ loP (aV S (zB (512 * p)) (512 * q)) q p))]⟩ := by
 have hp := aBi c p hp1 hp2 56 b7 aP (gE p hp1 hp2) tag k1 k2 most N cap N2 cap2 ls st S n q  hqn hc hc2 ht hls hS hn hq hq2 hfu hN hm hl hst
 have hy := aP (zB (512 * p))
 generalize (zB (512 * p)) = Q at hp hy ⊢
 generalize b7 Q = y at hp hy ⊢
 generalize aV S Q (512 * q) = S' at hp ⊢
 clear hqn
 refine acA tab mix Tryz.func28 {} ?_
 cases ls
 all_goals
  refine gob ?_
  refine aA hp [0, 1, 2, 3, 4, 5, 6, 7] ?_
  refine aI [0, 1, 2, 3, 4, 5, 6, 7, 9, 10]
set_option maxHeartbeats 1000000 in
theorem rL (hq : N < 512 * q) (hN : N ≤ most) (hm : most ≤ 16777216) (hl : ls.length < 1000) (hst : st < 1000) :
  AC Tryz.prog 28 [.ptr 4 [], .u32 n, .nilslice] 8 (fJ c p tag k1 k2 most N cap N2 cap2 ls st S)
   ⟨.tup [aB 0 (List.replicate 32 0), .i64 40], [], []⟩ := by
 have hp := aBg c p hp1 hp2 56 b7 aP (gE p hp1 hp2) tag k1 k2 most N cap N2 cap2 ls st S n q  hqn hc hc2 ht hls hS hn hq hN hm hl hst
 clear hqn
 refine acA tab mix Tryz.func28 {} ?_
 cases ls
 all_goals
  refine gob ?_
  refine aA hp [0, 1, 2, 3, 4, 5, 6, 7] ?_
  refine aI [0, 1, 2, 3, 4, 5, 6, 7]
set_option maxHeartbeats 1000000 in
theorem rM (hq : 512 * q ≤ N) (hfu : most < 512 * q + 512 * p) (hN : N ≤ most) (hm : most ≤ 16777216) (hl : ls.length < 1000) (hst : st < 1000) :
  AC Tryz.prog 28 [.ptr 4 [], .u32 n, .nilslice] 8 (fJ c p tag k1 k2 most N cap N2 cap2 ls st S)
   ⟨.tup [aB 0 (List.replicate 32 0), .i64 21], [], []⟩ := by
 have hp := aBh c p hp1 hp2 56 b7 aP (gE p hp1 hp2) tag k1 k2 most N cap N2 cap2 ls st S n q  hqn hc hc2 ht hls hS hn hq hfu hN hm hl hst
 clear hqn
 refine acA tab mix Tryz.func28 {} ?_
 cases ls
 all_goals
  refine gob ?_
  refine aA hp [0, 1, 2, 3, 4, 5, 6, 7] ?_
  refine aI [0, 1, 2, 3, 4, 5, 6, 7]
end
section
variable (a0 a1 a2 a3 a4 a5 a6 a7 : BitVec 32) (s0 s1 s2 s3 s4 s5 s6 s7 : B8) (g0 : s0.length = 32) (g1 : s1.length = 32) (g2 : s2.length = 32) (g3 : s3.length = 32) (g4 : s4.length = 32) (g5 : s5.length = 32) (g6 : s6.length = 32) (g7 : s7.length = 32) (hqn : q = 8 + n.toNat * p) (hc : 1 ≤ c) (hc2 : c ≤ 64) (ht : tag.length = 32) (hls : ∀ x ∈ ls, x.bytes.length = 512) (hS : S.length = N) (hn : n.toNat ≤ 65535)
include a0 a1 a2 a3 a4 a5 a6 a7 s0 s1 s2 s3 s4 s5 s6 s7 g0 g1 g2 g3 g4 g5 g6 g7 hqn hc hc2 ht hls hS hn
set_option maxHeartbeats 1000000 in
theorem uL (hq : 512 * q + 512 * p ≤ N) (hN : N ≤ most) (hm : most ≤ 16777216) (hl : ls.length < 1000) (hst : st < 1000) :
  AC Tryz.prog 26 [.ptr 4 [], .u32 n, eR a0 a1 a2 a3 a4 a5 a6 a7 s0 s1 s2 s3 s4 s5 s6 s7] 8 (fJ c p tag k1 k2 most N cap N2 cap2 ls st S)
   ⟨.tup [aB (n + 1) (dL (cG p (bA a0 a1 a2 a3 a4 a5 a6 a7 s0 s1 s2 s3 s4 s5 s6 s7))), .i64 0], (cX 3 ls).map (fun p => (p.1, none)) ++ [(0, some (dvD most N cap N2 cap2 (.slice 8 [] 0 (ls.length + p) none) (st + 1))), (1, some (.u8s (aV S (cG p (bA a0 a1 a2 a3 a4 a5 a6 a7 s0 s1 s2 s3 s4 s5 s6 s7)) (512 * q))))], [(.row tLo, cQ (ls ++ loP (aV S (cG p (bA a0 a1 a2 a3 a4 a5 a6 a7 s0 s1 s2 s3 s4 s5 s6 s7)) (512 * q)) q p))]⟩ := by
 have hpt := oO a0 a1 a2 a3 a4 a5 a6 a7 s0 s1 s2 s3 s4 s5 s6 s7 g0 g1 g2 g3 g4 g5 g6 g7
 have hB := dF (a0 := a0) (a1 := a1) (a2 := a2) (a3 := a3) (a4 := a4) (a5 := a5) (a6 := a6) (a7 := a7) g0 g1 g2 g3 g4 g5 g6 g7
 generalize bA a0 a1 a2 a3 a4 a5 a6 a7 s0 s1 s2 s3 s4 s5 s6 s7 = B at hpt hB ⊢
 have hp := rT c p hp1 hp2 49 dL bE (mD p hp1 hp2) tag k1 k2 most N cap N2 cap2 ls st S n q B 0 288 none (by omega) (by omega) hqn hc hc2 ht hls hS hn hq hN hm hl hst
 rw [List.drop_zero, List.take_of_length_le (by omega)] at hp
 have hy := bE (cG p B)
 generalize cG p B = Q at hp hy ⊢
 generalize dL Q = y at hp hy ⊢
 generalize aV S Q (512 * q) = S' at hp ⊢
 clear hqn
 refine acA tab mix Tryz.func26 {} ?_
 cases ls
 all_goals
  refine gob ?_
  refine aA hpt [] ?_
  refine aA hp [0, 1, 2, 3, 4, 5, 6, 7, 10] ?_
  refine aI [0, 1, 2, 3, 4, 5, 6, 7, 11]
set_option maxHeartbeats 1000000 in
theorem uK (hq : N < 512 * q + 512 * p) (hq2 : 512 * q ≤ N) (hfu : 512 * q + 512 * p ≤ most) (hN : N ≤ most) (hm : most ≤ 16777216) (hl : ls.length < 1000) (hst : st < 1000) :
  AC Tryz.prog 26 [.ptr 4 [], .u32 n, eR a0 a1 a2 a3 a4 a5 a6 a7 s0 s1 s2 s3 s4 s5 s6 s7] 8 (fJ c p tag k1 k2 most N cap N2 cap2 ls st S)
   ⟨.tup [aB (n + 1) (dL (cG p (bA a0 a1 a2 a3 a4 a5 a6 a7 s0 s1 s2 s3 s4 s5 s6 s7))), .i64 0], (cX 3 ls).map (fun p => (p.1, none)) ++ [(0, some (.node [.i64 most, .slice 8 [] 0 (512 * q + 512 * p) none, .slice 2 [] 0 N2 cap2, .slice 9 [] 0 (ls.length + p) none, .i64 (st + 1), .bool false, .nilptr])), (1, none)], [(.row .cell, .u8s (aV S (cG p (bA a0 a1 a2 a3 a4 a5 a6 a7 s0 s1 s2 s3 s4 s5 s6 s7)) (512 * q))), (.row tLo, cQ (ls ++ loP (aV S (cG p (bA a0 a1 a2 a3 a4 a5 a6 a7 s0 s1 s2 s3 s4 s5 s6 s7)) (512 * q)) q p))]⟩ := by
 have hpt := oO a0 a1 a2 a3 a4 a5 a6 a7 s0 s1 s2 s3 s4 s5 s6 s7 g0 g1 g2 g3 g4 g5 g6 g7
 have hB := dF (a0 := a0) (a1 := a1) (a2 := a2) (a3 := a3) (a4 := a4) (a5 := a5) (a6 := a6) (a7 := a7) g0 g1 g2 g3 g4 g5 g6 g7
 generalize bA a0 a1 a2 a3 a4 a5 a6 a7 s0 s1 s2 s3 s4 s5 s6 s7 = B at hpt hB ⊢
 have hp := rS c p hp1 hp2 49 dL bE (mD p hp1 hp2) tag k1 k2 most N cap N2 cap2 ls st S n q B 0 288 none (by omega) (by omega) hqn hc hc2 ht hls hS hn hq hq2 hfu hN hm hl hst
 rw [List.drop_zero, List.take_of_length_le (by omega)] at hp
 have hy := bE (cG p B)
 generalize cG p B = Q at hp hy ⊢
 generalize dL Q = y at hp hy ⊢
 generalize aV S Q (512 * q) = S' at hp ⊢
 clear hqn
 refine acA tab mix Tryz.func26 {} ?_
 cases ls
 all_goals
  refine gob ?_
  refine aA hpt [] ?_
  refine aA hp [0, 1, 2, 3, 4, 5, 6, 7, 10] ?_
  refine aI [0, 1, 2, 3, 4, 5, 6, 7, 11, 12]
set_option maxHeartbeats 1000000 in
theorem uI (hq : N < 512 * q) (hN : N ≤ most) (hm : most ≤ 16777216) (hl : ls.length < 1000) (hst : st < 1000) :
  AC Tryz.prog 26 [.ptr 4 [], .u32 n, eR a0 a1 a2 a3 a4 a5 a6 a7 s0 s1 s2 s3 s4 s5 s6 s7] 8 (fJ c p tag k1 k2 most N cap N2 cap2 ls st S)
   ⟨.tup [aB 0 (List.replicate 32 0), .i64 40], [], []⟩ := by
 have hpt := oO a0 a1 a2 a3 a4 a5 a6 a7 s0 s1 s2 s3 s4 s5 s6 s7 g0 g1 g2 g3 g4 g5 g6 g7
 have hB := dF (a0 := a0) (a1 := a1) (a2 := a2) (a3 := a3) (a4 := a4) (a5 := a5) (a6 := a6) (a7 := a7) g0 g1 g2 g3 g4 g5 g6 g7
 generalize bA a0 a1 a2 a3 a4 a5 a6 a7 s0 s1 s2 s3 s4 s5 s6 s7 = B at hpt hB
 have hp := rQ c p hp1 hp2 49 dL bE (mD p hp1 hp2) tag k1 k2 most N cap N2 cap2 ls st S n q B 0 288 none (by omega) (by omega) hqn hc hc2 ht hls hS hn hq hN hm hl hst
 clear hqn
 refine acA tab mix Tryz.func26 {} ?_
 cases ls
 all_goals
  refine gob ?_
  refine aA hpt [] ?_
  refine aA hp [0, 1, 2, 3, 4, 5, 6, 7, 10] ?_
  refine aI [0, 1, 2, 3, 4, 5, 6, 7]
set_option maxHeartbeats 1000000 in
theorem uJ (hq : 512 * q ≤ N) (hfu : most < 512 * q + 512 * p) (hN : N ≤ most) (hm : most ≤ 16777216) (hl : ls.length < 1000) (hst : st < 1000) :
  AC Tryz.prog 26 [.ptr 4 [], .u32 n, eR a0 a1 a2 a3 a4 a5 a6 a7 s0 s1 s2 s3 s4 s5 s6 s7] 8 (fJ c p tag k1 k2 most N cap N2 cap2 ls st S)
   ⟨.tup [aB 0 (List.replicate 32 0), .i64 21], [], []⟩ := by
 have hpt := oO a0 a1 a2 a3 a4 a5 a6 a7 s0 s1 s2 s3 s4 s5 s6 s7 g0 g1 g2 g3 g4 g5 g6 g7
 have hB := dF (a0 := a0) (a1 := a1) (a2 := a2) (a3 := a3) (a4 := a4) (a5 := a5) (a6 := a6) (a7 := a7) g0 g1 g2 g3 g4 g5 g6 g7
 generalize bA a0 a1 a2 a3 a4 a5 a6 a7 s0 s1 s2 s3 s4 s5 s6 s7 = B at hpt hB
 have hp := rR c p hp1 hp2 49 dL bE (mD p hp1 hp2) tag k1 k2 most N cap N2 cap2 ls st S n q B 0 288 none (by omega) (by omega) hqn hc hc2 ht hls hS hn hq hfu hN hm hl hst
 clear hqn
 refine acA tab mix Tryz.func26 {} ?_
 cases ls
 all_goals
  refine gob ?_
  refine aA hpt [] ?_
  refine aA hp [0, 1, 2, 3, 4, 5, 6, 7, 10] ?_
  refine aI [0, 1, 2, 3, 4, 5, 6, 7]
end
section
variable (B : B8) (o : Nat) (cap3 : Option Nat) (hB : o + 512 * p ≤ B.length) (hB2 : B.length < 9223372036854775808) (h1 : Rows 15 16 k1) (h2 : Rows 15 16 k2) (hqn : q = 8 + n.toNat * p) (hc : 1 ≤ c) (hc2 : c ≤ 64) (ht : tag.length = 32) (hls : ∀ x ∈ ls, x.bytes.length = 512) (hS : S.length = N) (hn : n.toNat ≤ 65535)
include B o cap3 hB hB2 h1 h2 hqn hc hc2 ht hls hS hn
set_option maxHeartbeats 1000000 in
theorem uP (hq : 512 * q + 512 * p ≤ N) (hN : N ≤ most) (hm : most ≤ 16777216) (hl : ls.length < 1000) (hst : st < 1000) :
  AC Tryz.prog 11 [.ptr 4 [], .u32 n, .slice 8 [] o (512 * p) cap3] 9 (fJ c p tag k1 k2 most N cap N2 cap2 ls st S ++ [(8, some ⟨.row .cell, .u8s B, false⟩)])
   ⟨.tup [aB (n + 1) (bY tag (n + 1) (eD k1 k2 B o q p)), .i64 0], (cX 3 ls).map (fun p => (p.1, none)) ++ [(0, some (dvD most N cap N2 cap2 (.slice 9 [] 0 (ls.length + p) none) (st + 1))), (1, some (.u8s (aV S (eD k1 k2 B o q p) (512 * q))))], [(.row tLo, cQ (ls ++ loP (aV S (eD k1 k2 B o q p) (512 * q)) q p))]⟩ := by
 have hsz := bS 0 0 c p tag (by decide) (by decide) hp2
 have hse := iJ c p tag n q hqn hc hc2 hp1 hp2 hn
 have hsl := r7 (.row .cell) (.inl rfl) k1 k2 h1 h2 B o p cap3 (BitVec.ofNat 64 q) hB (by omega) hB2
 have hQl := cL (k1 := k1) k2 (q := q) hB
 rw [show ovI (oJ k1) k2 B o (BitVec.ofNat 64 q) p = eD k1 k2 B o q p from rfl] at hsl
 generalize eD k1 k2 B o q p = Q at hsl hQl ⊢
 have hlf := gJ (n + 1)
 have hp := aBn c p hp1 hp2 tag k1 k2 most N cap N2 cap2 ls st S n q (n + 1) Q hQl hqn hc hc2 ht hls hS hn hq hN hm hl hst
 have hy := aR tag (n + 1) Q
 generalize bY tag (n + 1) Q = y at hp hy ⊢
 generalize aV S Q (512 * q) = S' at hp ⊢
 clear hqn
 refine acA tab mix Tryz.func11 {} ?_
 cases ls
 all_goals
  refine gob ?_
  refine brN ?_ (decide_eq_false (show ¬ 65535 < n.toNat by omega))
  refine gob ?_
  refine aA hsz [4, 0, 5] ?_
  refine Br.no (show (!decide (((512 * p : Nat) : Int) = ((512 * p : Nat) : Int))) = false by rw [decide_eq_true rfl]; rfl) ?_
  refine gob ?_
  refine aA hse [4, 0, 5] ?_
  refine aA hsl [5, 6, 7, 8] ?_
  refine aA hlf [4] ?_
  refine aA hp [0, 1, 2, 3, 4, 5, 6, 7, 10, 11, 12] ?_
  refine aI [0, 1, 2, 3, 4, 5, 6, 7, 8, 13]
set_option maxHeartbeats 1000000 in
theorem uO (hq : N < 512 * q + 512 * p) (hq2 : 512 * q ≤ N) (hfu : 512 * q + 512 * p ≤ most) (hN : N ≤ most) (hm : most ≤ 16777216) (hl : ls.length < 1000) (hst : st < 1000) :
  AC Tryz.prog 11 [.ptr 4 [], .u32 n, .slice 8 [] o (512 * p) cap3] 9 (fJ c p tag k1 k2 most N cap N2 cap2 ls st S ++ [(8, some ⟨.row .cell, .u8s B, false⟩)])
   ⟨.tup [aB (n + 1) (bY tag (n + 1) (eD k1 k2 B o q p)), .i64 0], (cX 3 ls).map (fun p => (p.1, none)) ++ [(0, some (.node [.i64 most, .slice 9 [] 0 (512 * q + 512 * p) none, .slice 2 [] 0 N2 cap2, .slice 10 [] 0 (ls.length + p) none, .i64 (st + 1), .bool false, .nilptr])), (1, none)], [(.row .cell, .u8s (aV S (eD k1 k2 B o q p) (512 * q))), (.row tLo, cQ (ls ++ loP (aV S (eD k1 k2 B o q p) (512 * q)) q p))]⟩ := by
 have hsz := bS 0 0 c p tag (by decide) (by decide) hp2
 have hse := iJ c p tag n q hqn hc hc2 hp1 hp2 hn
 have hsl := r7 (.row .cell) (.inl rfl) k1 k2 h1 h2 B o p cap3 (BitVec.ofNat 64 q) hB (by omega) hB2
 have hQl := cL (k1 := k1) k2 (q := q) hB
 rw [show ovI (oJ k1) k2 B o (BitVec.ofNat 64 q) p = eD k1 k2 B o q p from rfl] at hsl
 generalize eD k1 k2 B o q p = Q at hsl hQl ⊢
 have hlf := gJ (n + 1)
 have hp := aBm c p hp1 hp2 tag k1 k2 most N cap N2 cap2 ls st S n q (n + 1) Q hQl hqn hc hc2 ht hls hS hn hq hq2 hfu hN hm hl hst
 have hy := aR tag (n + 1) Q
 generalize bY tag (n + 1) Q = y at hp hy ⊢
 generalize aV S Q (512 * q) = S' at hp ⊢
 clear hqn
 refine acA tab mix Tryz.func11 {} ?_
 cases ls
 all_goals
  refine gob ?_
  refine brN ?_ (decide_eq_false (show ¬ 65535 < n.toNat by omega))
  refine gob ?_
  refine aA hsz [4, 0, 5] ?_
  refine Br.no (show (!decide (((512 * p : Nat) : Int) = ((512 * p : Nat) : Int))) = false by rw [decide_eq_true rfl]; rfl) ?_
  refine gob ?_
  refine aA hse [4, 0, 5] ?_
  refine aA hsl [5, 6, 7, 8] ?_
  refine aA hlf [4] ?_
  refine aA hp [0, 1, 2, 3, 4, 5, 6, 7, 10, 11, 12] ?_
  refine aI [0, 1, 2, 3, 4, 5, 6, 7, 8, 13, 14]
set_option maxHeartbeats 1000000 in
theorem uM (hq : N < 512 * q) (hN : N ≤ most) (hm : most ≤ 16777216) (hl : ls.length < 1000) (hst : st < 1000) :
  AC Tryz.prog 11 [.ptr 4 [], .u32 n, .slice 8 [] o (512 * p) cap3] 9 (fJ c p tag k1 k2 most N cap N2 cap2 ls st S ++ [(8, some ⟨.row .cell, .u8s B, false⟩)])
   ⟨.tup [aB 0 (List.replicate 32 0), .i64 40], [], []⟩ := by
 have hsz := bS 0 0 c p tag (by decide) (by decide) hp2
 have hse := iJ c p tag n q hqn hc hc2 hp1 hp2 hn
 have hsl := r7 (.row .cell) (.inl rfl) k1 k2 h1 h2 B o p cap3 (BitVec.ofNat 64 q) hB (by omega) hB2
 have hQl := cL (k1 := k1) k2 (q := q) hB
 rw [show ovI (oJ k1) k2 B o (BitVec.ofNat 64 q) p = eD k1 k2 B o q p from rfl] at hsl
 generalize eD k1 k2 B o q p = Q at hsl hQl
 have hlf := gJ (n + 1)
 have hp := aBk c p hp1 hp2 tag k1 k2 most N cap N2 cap2 ls st S n q (n + 1) Q hQl hqn hc hc2 ht hls hS hn hq hN hm hl hst
 clear hqn
 refine acA tab mix Tryz.func11 {} ?_
 cases ls
 all_goals
  refine gob ?_
  refine brN ?_ (decide_eq_false (show ¬ 65535 < n.toNat by omega))
  refine gob ?_
  refine aA hsz [4, 0, 5] ?_
  refine Br.no (show (!decide (((512 * p : Nat) : Int) = ((512 * p : Nat) : Int))) = false by rw [decide_eq_true rfl]; rfl) ?_
  refine gob ?_
  refine aA hse [4, 0, 5] ?_
  refine aA hsl [5, 6, 7, 8] ?_
  refine aA hlf [4] ?_
  refine aA hp [0, 1, 2, 3, 4, 5, 6, 7, 10, 11, 12] ?_
  refine aI [0, 1, 2, 3, 4, 5, 6, 7, 8]
set_option maxHeartbeats 1000000 in
theorem uN (hq : 512 * q ≤ N) (hfu : most < 512 * q + 512 * p) (hN : N ≤ most) (hm : most ≤ 16777216) (hl : ls.length < 1000) (hst : st < 1000) :
  AC Tryz.prog 11 [.ptr 4 [], .u32 n, .slice 8 [] o (512 * p) cap3] 9 (fJ c p tag k1 k2 most N cap N2 cap2 ls st S ++ [(8, some ⟨.row .cell, .u8s B, false⟩)])
   ⟨.tup [aB 0 (List.replicate 32 0), .i64 21], [], []⟩ := by
 have hsz := bS 0 0 c p tag (by decide) (by decide) hp2
 have hse := iJ c p tag n q hqn hc hc2 hp1 hp2 hn
 have hsl := r7 (.row .cell) (.inl rfl) k1 k2 h1 h2 B o p cap3 (BitVec.ofNat 64 q) hB (by omega) hB2
 have hQl := cL (k1 := k1) k2 (q := q) hB
 rw [show ovI (oJ k1) k2 B o (BitVec.ofNat 64 q) p = eD k1 k2 B o q p from rfl] at hsl
 generalize eD k1 k2 B o q p = Q at hsl hQl
 have hlf := gJ (n + 1)
 have hp := aBl c p hp1 hp2 tag k1 k2 most N cap N2 cap2 ls st S n q (n + 1) Q hQl hqn hc hc2 ht hls hS hn hq hfu hN hm hl hst
 clear hqn
 refine acA tab mix Tryz.func11 {} ?_
 cases ls
 all_goals
  refine gob ?_
  refine brN ?_ (decide_eq_false (show ¬ 65535 < n.toNat by omega))
  refine gob ?_
  refine aA hsz [4, 0, 5] ?_
  refine Br.no (show (!decide (((512 * p : Nat) : Int) = ((512 * p : Nat) : Int))) = false by rw [decide_eq_true rfl]; rfl) ?_
  refine gob ?_
  refine aA hse [4, 0, 5] ?_
  refine aA hsl [5, 6, 7, 8] ?_
  refine aA hlf [4] ?_
  refine aA hp [0, 1, 2, 3, 4, 5, 6, 7, 10, 11, 12] ?_
  refine aI [0, 1, 2, 3, 4, 5, 6, 7, 8]
end
end
end
end Go.Proofs.YtodkhgofmgaafaaGreatDoor.Av
