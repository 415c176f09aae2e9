import Derived.Test.YtllcgppffncafaaGreatDoorM5
import Derived.Test.YtllcgppffncafaaGreatDoorM4
namespace Go.Proofs.YtllcgppffncafaaGreatDoor.Av
open Go
set_option linter.all false
set_option maxRecDepth 3000
def u4G (bs : B8) (o : Nat) : BitVec 32 :=
 ((((((0 : BitVec 64) <<< (8 : Nat) ||| (bs.getD o 0).setWidth 64) <<< (8 : Nat) ||| (bs.getD (o + 1) 0).setWidth 64) <<< (8 : Nat) ||| (bs.getD (o + 1 + 1) 0).setWidth 64) <<< (8 : Nat) ||| (bs.getD (o + 1 + 1 + 1) 0).setWidth 64)).setWidth 32
section
variable (bs : B8) (o len : Nat) (cap : Option Nat)
include bs o len cap
section
variable (h : 4 ≤ len) (hb : o + len ≤ bs.length)
include h hb
theorem aA8 :
  AC Tryz.prog 140 [.ptr 1 [], .i64 4] 2 (rdM bs o len cap) ⟨.u64 ((((((0 : BitVec 64) <<< (8 : Nat) ||| (bs.getD o 0).setWidth 64) <<< (8 : Nat) ||| (bs.getD (o + 1) 0).setWidth 64) <<< (8 : Nat) ||| (bs.getD (o + 1 + 1) 0).setWidth 64) <<< (8 : Nat) ||| (bs.getD (o + 1 + 1 + 1) 0).setWidth 64)), rdN o len 4 cap, []⟩ := by
 have hn := yS bs o 4 len cap h
 refine acA tab mix Tryz.func140 ⟨[], [4]⟩ ?_
 refine gob ?_
 refine aB hn [0, 1] ?_
 refine o0 5 ?_
 refine gob ?_
 refine aF [0, 1]
theorem gS :
  AC Tryz.prog 105 [.ptr 1 []] 2 (rdM bs o len cap) ⟨.u32 (u4G bs o), rdN o len 4 cap, []⟩ := by
 have hn := aA8 bs o len cap h hb
 unfold u4G
 generalize ((((((0 : BitVec 64) <<< (8 : Nat) ||| (bs.getD o 0).setWidth 64) <<< (8 : Nat) ||| (bs.getD (o + 1) 0).setWidth 64) <<< (8 : Nat) ||| (bs.getD (o + 1 + 1) 0).setWidth 64) <<< (8 : Nat) ||| (bs.getD (o + 1 + 1 + 1) 0).setWidth 64) : BitVec 64) = y at hn ⊢
 refine acA tab mix Tryz.func105 {} ?_
 refine gob ?_
 refine aB hn [0, 1] ?_
 refine aF [0, 1]
end
theorem aDY :
  AC Tryz.prog 108 [.ptr 1 []] 2 [(1, some ⟨tRd, .node [.slice 0 [] o len cap, .i64 0], false⟩)] ⟨.i64 len, [], []⟩ := by
 refine acA tab mix Tryz.func108 {} ?_
 refine gob ?_
 refine aF [0, 1]
theorem aFV :
  AC Tryz.prog 107 [.ptr 1 []] 2 [(1, some ⟨tRd, .node [.slice 0 [] o len cap, .i64 0], false⟩)] ⟨.i64 0, [], []⟩ := by
 refine acA tab mix Tryz.func107 {} ?_
 refine gob ?_
 refine aF [0, 1]
end
theorem qB (c : BitVec 8) : AC Tryz.prog 110 [.u8 c] 0 [] ⟨.bool (!decide (c = 0)), [], []⟩ := by
 refine acA tab mix Tryz.func110 {} ?_
 refine gob ?_
 refine aF []
theorem aC2 (bs : B8) (o k : Nat) (cap : Option Nat) (hb : o + k ≤ bs.length) (hk : k < 4611686018427387904) (h : ∀ i, i < k → bs.getD (o + i) 0 = 0) :
  AC Tryz.prog 142 [.slice 0 [] o k cap, .fn 110 [] []] 1 [(0, some ⟨.row .cell, .u8s bs, false⟩)] ⟨.i64 (-1), [], []⟩ := by
 refine acA tab mix Tryz.func142 {} ?_
 refine go ?_
 refine aT Nat (fun i => [(0, .slice 0 [] o k cap), (1, .fn 110 [] []), (7, .i64 k), (8, .i64 i)]) (fun i => [(0, some ⟨.row .cell, .u8s bs, false⟩)]) 1
  (fun i => i ≤ k) (fun i => k - i) 0 [0] (Nat.zero_le _) viewA ?_
 intro i hi
 refine go ?_
 refine Br.split (fun hh => ?_) (fun hh => ?_)
 ·have hi : i < k := by have := of_decide_eq_true hh; omega
  have hf := qB (bs.getD (o + i) 0)
  rw [decide_eq_true (h i hi)] at hf
  refine go ?_
  refine aB hf [] ?_
  refine aQ (i + 1) [0] viewA
 ·refine go ?_
  refine aF [0]
theorem aC1 (bs : B8) (o k j : Nat) (cap : Option Nat) (hb : o + k ≤ bs.length) (hk : k < 4611686018427387904) (hj : j < k) (h : ∀ i, i < j → bs.getD (o + i) 0 = 0) (hn : ¬ bs.getD (o + j) 0 = 0) :
  AC Tryz.prog 142 [.slice 0 [] o k cap, .fn 110 [] []] 1 [(0, some ⟨.row .cell, .u8s bs, false⟩)] ⟨.i64 j, [], []⟩ := by
 refine acA tab mix Tryz.func142 {} ?_
 refine go ?_
 refine aT Nat (fun i => [(0, .slice 0 [] o k cap), (1, .fn 110 [] []), (7, .i64 k), (8, .i64 i)]) (fun i => [(0, some ⟨.row .cell, .u8s bs, false⟩)]) 1
  (fun i => i ≤ j) (fun i => k - i) 0 [0] (Nat.zero_le _) viewA ?_
 intro i hi
 refine go ?_
 refine brY ?_ (h := decide_eq_true (show (i : Int) < (k : Int) by omega))
 have hf := qB (bs.getD (o + i) 0)
 by_cases he : i = j
 ·subst he
  rw [decide_eq_false hn] at hf
  refine go ?_
  refine aB hf [] ?_
  refine aF [0]
 ·rw [decide_eq_true (h i (by omega))] at hf
  refine go ?_
  refine aB hf [] ?_
  refine aQ (i + 1) [0] viewA
def cW (bs : B8) (o k : Nat) : Bool := ((bs.drop o).take k).all fun c => decide (c = 0)
theorem nV {bs : B8} {o k : Nat} (hb : o + k ≤ bs.length) : cW bs o k = true ↔ ∀ i, i < k → bs.getD (o + i) 0 = 0 := by
 unfold cW
 rw [List.all_eq_true]
 constructor
 ·intro h i hi
  have : bs.getD (o + i) 0 ∈ (bs.drop o).take k := by
   have e : ((bs.drop o).take k)[i]? = some (bs.getD (o + i) 0) := by
    rw [List.getElem?_take, if_pos hi, List.getElem?_drop, List.getD_eq_getElem?_getD, List.getElem?_eq_getElem (by omega)]; rfl
   exact List.mem_of_getElem? e
  exact of_decide_eq_true (h _ this)
 ·intro h c hc
  obtain ⟨i, hi⟩ := List.mem_iff_getElem?.1 hc
  have hlt : i < ((bs.drop o).take k).length := (List.getElem?_eq_some_iff.1 hi).1
  rw [List.length_take, List.length_drop] at hlt
  have hik : i < k := by omega
  rw [List.getElem?_take, if_pos hik, List.getElem?_drop] at hi
  have e := h i hik
  rw [List.getD_eq_getElem?_getD, hi] at e
  exact decide_eq_true e
theorem zU : ∀ (k : Nat) (f : Nat → Prop) [DecidablePred f], ¬ (∀ i, i < k → f i) → ∃ j, j < k ∧ (∀ i, i < j → f i) ∧ ¬ f j
 |0, _, _, h => absurd (fun _ h => absurd h (Nat.not_lt_zero _)) h
 |k + 1, f, _, h => by
  by_cases hk : ∀ i, i < k → f i
  ·exact ⟨k, Nat.lt_succ_self k, hk, fun hf => h fun i hi => by
    rcases Nat.lt_or_eq_of_le (Nat.le_of_lt_succ hi) with h' | h'
    ·exact hk i h'
    ·exact h' ▸ hf⟩
  ·obtain ⟨j, h1, h2, h3⟩ := zU k f hk
   exact ⟨j, Nat.lt_succ_of_lt h1, h2, h3⟩
section
variable (bs : B8) (o k : Nat) (cap : Option Nat) (hb : o + k ≤ bs.length) (hk : k < 4611686018427387904)
include bs o k cap hb hk
theorem vE :
  AC Tryz.prog 109 [.slice 0 [] o k cap, .fn 110 [] []] 1 [(0, some ⟨.row .cell, .u8s bs, false⟩)] ⟨.bool (!cW bs o k), [], []⟩ := by
 by_cases h : ∀ i, i < k → bs.getD (o + i) 0 = 0
 ·rw [(nV hb).2 h]
  have hi := aC2 bs o k cap hb hk h
  refine acA tab mix Tryz.func109 {} ?_
  refine gob ?_
  refine aB hi [0] ?_
  refine aF [0]
 ·have e : cW bs o k = false := by
   cases hz : cW bs o k with
   |false => rfl
   |true => exact absurd ((nV hb).1 hz) h
  rw [e]
  obtain ⟨j, h1, h2, h3⟩ := zU k (fun i => bs.getD (o + i) 0 = 0) h
  have hi := aC1 bs o k j cap hb hk h1 h2 h3
  refine acA tab mix Tryz.func109 {} ?_
  refine gob ?_
  refine aB hi [0] ?_
  refine aF [0] (h1 := ?_)
  show aA0 (.bool (decide ((j : Int) ≥ 0))) [.bool true]
  rw [decide_eq_true (Int.natCast_nonneg j)]; rfl
theorem aCL :
  AC Tryz.prog 70 [.slice 0 [] o k cap] 1 [(0, some ⟨.row .cell, .u8s bs, false⟩)] ⟨.bool (cW bs o k), [], []⟩ := by
 have hc := vE bs o k cap hb hk
 generalize cW bs o k = y at hc ⊢
 refine acA tab mix Tryz.func70 {} ?_
 refine gob ?_
 refine aB hc [0] ?_
 refine aF [0] (h1 := ?_)
 cases y <;> rfl
end
def lY (bs : B8) (o : Nat) : Bool := decide (u4G bs o = 0) && !decide ((bs.drop (o + 4)).take 32 = zB 32)
def aAg (bs : B8) : D := (D.node [aA (u4G bs 0) ((bs.drop 4).take 32), aA (u4G bs 36) ((bs.drop 40).take 32), aA (u4G bs 72) ((bs.drop 76).take 32), aA (u4G bs 108) ((bs.drop 112).take 32), aA (u4G bs 144) ((bs.drop 148).take 32), aA (u4G bs 180) ((bs.drop 184).take 32), aA (u4G bs 216) ((bs.drop 220).take 32), aA (u4G bs 252) ((bs.drop 256).take 32)])
def aBH (bs : B8) : Bool := lY bs 0 || lY bs 36 || lY bs 72 || lY bs 108 || lY bs 144 || lY bs 180 || lY bs 216 || lY bs 252
def aEm (bs : B8) : D × Int := bif aBH bs then (uC, 4) else (aAg bs, 0)
def nZ (bs : B8) : Nat → D
 |0 => (D.node [aA 0 (zB 32), aA 0 (zB 32), aA 0 (zB 32), aA 0 (zB 32), aA 0 (zB 32), aA 0 (zB 32), aA 0 (zB 32), aA 0 (zB 32)])
 |1 => (D.node [aA (u4G bs 0) ((bs.drop 4).take 32), aA 0 (zB 32), aA 0 (zB 32), aA 0 (zB 32), aA 0 (zB 32), aA 0 (zB 32), aA 0 (zB 32), aA 0 (zB 32)])
 |2 => (D.node [aA (u4G bs 0) ((bs.drop 4).take 32), aA (u4G bs 36) ((bs.drop 40).take 32), aA 0 (zB 32), aA 0 (zB 32), aA 0 (zB 32), aA 0 (zB 32), aA 0 (zB 32), aA 0 (zB 32)])
 |3 => (D.node [aA (u4G bs 0) ((bs.drop 4).take 32), aA (u4G bs 36) ((bs.drop 40).take 32), aA (u4G bs 72) ((bs.drop 76).take 32), aA 0 (zB 32), aA 0 (zB 32), aA 0 (zB 32), aA 0 (zB 32), aA 0 (zB 32)])
 |4 => (D.node [aA (u4G bs 0) ((bs.drop 4).take 32), aA (u4G bs 36) ((bs.drop 40).take 32), aA (u4G bs 72) ((bs.drop 76).take 32), aA (u4G bs 108) ((bs.drop 112).take 32), aA 0 (zB 32), aA 0 (zB 32), aA 0 (zB 32), aA 0 (zB 32)])
 |5 => (D.node [aA (u4G bs 0) ((bs.drop 4).take 32), aA (u4G bs 36) ((bs.drop 40).take 32), aA (u4G bs 72) ((bs.drop 76).take 32), aA (u4G bs 108) ((bs.drop 112).take 32), aA (u4G bs 144) ((bs.drop 148).take 32), aA 0 (zB 32), aA 0 (zB 32), aA 0 (zB 32)])
 |6 => (D.node [aA (u4G bs 0) ((bs.drop 4).take 32), aA (u4G bs 36) ((bs.drop 40).take 32), aA (u4G bs 72) ((bs.drop 76).take 32), aA (u4G bs 108) ((bs.drop 112).take 32), aA (u4G bs 144) ((bs.drop 148).take 32), aA (u4G bs 180) ((bs.drop 184).take 32), aA 0 (zB 32), aA 0 (zB 32)])
 |7 => (D.node [aA (u4G bs 0) ((bs.drop 4).take 32), aA (u4G bs 36) ((bs.drop 40).take 32), aA (u4G bs 72) ((bs.drop 76).take 32), aA (u4G bs 108) ((bs.drop 112).take 32), aA (u4G bs 144) ((bs.drop 148).take 32), aA (u4G bs 180) ((bs.drop 184).take 32), aA (u4G bs 216) ((bs.drop 220).take 32), aA 0 (zB 32)])
 |_ => aAg bs
theorem fG {bs : B8} {i : Nat} (hi : i < 8) (h : lY bs (36 * i) = true) : aEm bs = (uC, 4) := by
 have : aBH bs = true := by
  unfold aBH
  have : i = 0 ∨ i = 1 ∨ i = 2 ∨ i = 3 ∨ i = 4 ∨ i = 5 ∨ i = 6 ∨ i = 7 := by omega
  rcases this with rfl | rfl | rfl | rfl | rfl | rfl | rfl | rfl <;> (have h' := h; simp only [Nat.mul_zero, Nat.mul_one, Nat.reduceMul] at h'; simp only [h', Bool.true_or, Bool.or_true])
 unfold aEm; rw [this]; rfl
theorem aDw {bs : B8} (h : ∀ j, j < 8 → lY bs (36 * j) = false) : aEm bs = (aAg bs, 0) := by
 have : aBH bs = false := by
  unfold aBH
  have h0 := h 0 (by decide); have h1 := h 1 (by decide); have h2 := h 2 (by decide); have h3 := h 3 (by decide)
  have h4 := h 4 (by decide); have h5 := h 5 (by decide); have h6 := h 6 (by decide); have h7 := h 7 (by decide)
  simp only [Nat.mul_zero, Nat.mul_one, Nat.reduceMul] at h0 h1 h2 h3 h4 h5 h6 h7
  rw [h0, h1, h2, h3, h4, h5, h6, h7]; rfl
 unfold aEm; rw [this]; rfl
theorem gU (a : BitVec 32) (s : B8) : (aA a s).eqb (aA 0 (zB 32)) = (decide (a = 0) && decide (s = zB 32)) := by
 show (decide (a = 0) && (decide (s = zB 32) && true)) = _
 rw [Bool.and_true]
theorem sX {l y : B8} (hl : l.length = 32) (hy : y.length = 32) : l.take 0 ++ (y.drop 0).take 32 ++ l.drop (0 + 32) = y := by
 rw [List.take_zero, List.nil_append, Nat.zero_add, List.drop_of_length_le (l := l) (by omega), List.append_nil, List.drop_zero, List.take_of_length_le (by omega)]
theorem iW {bs : B8} {i : Nat} {R : D × Int} (hi : (∀ j, j < i → lY bs (36 * j) = false) ∧ lY bs (36 * i) = false) : ∀ j, j < i + 1 → lY bs (36 * j) = false := fun j hj => by
 rcases Nat.lt_or_eq_of_le (Nat.le_of_lt_succ hj) with h' | h'
 ·exact hi.1 j h'
 ·exact h' ▸ hi.2
abbrev tNd : Ty := .arr 8 lK
set_option maxHeartbeats 4000000 in
theorem aFg (bs : B8) (hb : 288 ≤ bs.length) :
  AC Tryz.prog 69 [.slice 0 [] 0 288 none] 1 [(0, some ⟨.row .cell, .u8s bs, false⟩)] ⟨.tup [(aEm bs).1, .i64 (aEm bs).2], [], []⟩ := by
 obtain ⟨R, hR⟩ : ∃ R, aEm bs = R := ⟨_, rfl⟩
 rw [hR]
 have hr := aD6 bs 0 288 none
 have e1 := aFV bs 288 0 none
 have e2 := aDY bs 288 0 none
 refine acA tab mix Tryz.func69 {} ?_
 refine gob ?_
 refine aB hr [0] ?_
 refine aT (Nat × D) (fun y => [(2, .ptr 1 []), (4, .ptr 2 []), (5, .ptr 3 []), (10, .i64 y.1)]) (fun y => [(0, some ⟨.row .cell, .u8s bs, false⟩), (1, some ⟨tNd, uC, true⟩), (2, some ⟨tNd, y.2, true⟩), (3, some ⟨tRd, .node [.slice 0 [] (36 * y.1) (288 - 36 * y.1) none, .i64 0], true⟩)]) 4
  (fun y => y.1 ≤ 8 ∧ y.2 = nZ bs y.1 ∧ ∀ j, j < y.1 → lY bs (36 * j) = false) (fun y => 8 - y.1) (0, nZ bs 0) [0, 1, 2, 3] ⟨Nat.zero_le _, rfl, fun j h => absurd h (Nat.not_lt_zero _)⟩ viewA ?_
 rintro ⟨i, d⟩ hI
 obtain ⟨hi, hd, hall⟩ := hI
 have hi : i ≤ 8 := hi
 have hd : d = nZ bs i := hd
 have hall : ∀ j, j < i → lY bs (36 * j) = false := hall
 have : i = 0 ∨ i = 1 ∨ i = 2 ∨ i = 3 ∨ i = 4 ∨ i = 5 ∨ i = 6 ∨ i = 7 ∨ i = 8 := by omega
 rcases this with rfl | rfl | rfl | rfl | rfl | rfl | rfl | rfl | rfl
 ·have c := gS bs 0 288 none (by decide) (by omega)
  have t := gP bs 4 32 284 none (by decide) (by omega) (by decide)
  subst hd
  have l : ((bs.drop 4).take 32).length = 32 := by rw [List.length_take, List.length_drop]; omega
  have hb : lY bs (36 * 0) = (decide (u4G bs 0 = 0) && !decide ((bs.drop 4).take 32 = zB 32)) := rfl
  have hx := fG (bs := bs) (i := 0) (by decide)
  rw [hb, hR] at hx
  have hy : nZ bs 1 = (D.node [aA (u4G bs 0) ((bs.drop 4).take 32), aA 0 (zB 32), aA 0 (zB 32), aA 0 (zB 32), aA 0 (zB 32), aA 0 (zB 32), aA 0 (zB 32), aA 0 (zB 32)]) := rfl
  skip
  generalize (bs.drop 4).take 32 = s at t l hb hx hy
  generalize u4G bs 0 = a at c hb hx hy
  refine gob ?_
  refine eD c [0, 3] ?_
  iterate 2 (first | refine go1 ?_)
  refine lL (D.node [aA a (zB 32), aA 0 (zB 32), aA 0 (zB 32), aA 0 (zB 32), aA 0 (zB 32), aA 0 (zB 32), aA 0 (zB 32), aA 0 (zB 32)]) rfl rfl rfl rfl rfl rfl rfl rfl rfl ⟨(show 0 < 8 from by decide), trivial⟩ rfl ?_
  refine go ?_
  refine eD t [0, 3] ?_
  skip
  refine vC (D.node [aA a s, aA 0 (zB 32), aA 0 (zB 32), aA 0 (zB 32), aA 0 (zB 32), aA 0 (zB 32), aA 0 (zB 32), aA 0 (zB 32)]) rfl rfl rfl rfl rfl rfl rfl rfl rfl rfl rfl rfl rfl rfl rfl (by decide) rfl rfl ?_ ⟨by omega, trivial⟩ ⟨(show 0 < 8 from by decide), (by decide : 0 + 32 ≤ (List.replicate 32 (0 : BitVec 8)).length), trivial⟩ ?_ ?_
  ·exact congrArg (fun x => some (D.node [aA a x, aA 0 (zB 32), aA 0 (zB 32), aA 0 (zB 32), aA 0 (zB 32), aA 0 (zB 32), aA 0 (zB 32), aA 0 (zB 32)])) (sX (l := zB 32) (y := s) rfl l)
  ·show (List.take 32 (List.drop 0 s)).length = 32
   rw [List.drop_zero, List.length_take]; omega
  refine go ?_
  by_cases qa : a = 0
  ·refine Br.yes (decide_eq_true qa) ?_
   by_cases qs : s = zB 32
   ·subst qs
    subst qa
    refine gob ?_
    refine aQ (1, (D.node [aA 0 (zB 32), aA 0 (zB 32), aA 0 (zB 32), aA 0 (zB 32), aA 0 (zB 32), aA 0 (zB 32), aA 0 (zB 32), aA 0 (zB 32)])) [0, 1, 2, 3] viewA (h1 := ⟨Nat.le_of_ble_eq_true rfl, hy.symm, iW (R := R) ⟨hall, by rw [hb]; rfl⟩⟩) (h2 := (by decide : 8 - 1 < 8 - 0))
   ·have hx := hx (by rw [decide_eq_true qa, decide_eq_false qs]; rfl)
    subst hx
    refine gob ?_
    refine brY ?_ (h := by show (!((aA a s).eqb (aA 0 (zB 32)))) = true; rw [gU, decide_eq_false qs, Bool.and_false]; rfl)
    refine gob ?_
    refine aF [0]
  ·refine brN ?_ (decide_eq_false qa)
   refine gob ?_
   refine aQ (1, (D.node [aA a s, aA 0 (zB 32), aA 0 (zB 32), aA 0 (zB 32), aA 0 (zB 32), aA 0 (zB 32), aA 0 (zB 32), aA 0 (zB 32)])) [0, 1, 2, 3] viewA (h1 := ⟨Nat.le_of_ble_eq_true rfl, hy.symm, iW (R := R) ⟨hall, by rw [hb, decide_eq_false qa]; rfl⟩⟩) (h2 := (by decide : 8 - 1 < 8 - 0))
 ·have c := gS bs 36 252 none (by decide) (by omega)
  have t := gP bs 40 32 248 none (by decide) (by omega) (by decide)
  subst hd
  have l : ((bs.drop 40).take 32).length = 32 := by rw [List.length_take, List.length_drop]; omega
  have hb : lY bs (36 * 1) = (decide (u4G bs 36 = 0) && !decide ((bs.drop 40).take 32 = zB 32)) := rfl
  have hx := fG (bs := bs) (i := 1) (by decide)
  rw [hb, hR] at hx
  have hy : nZ bs 2 = (D.node [aA (u4G bs 0) ((bs.drop 4).take 32), aA (u4G bs 36) ((bs.drop 40).take 32), aA 0 (zB 32), aA 0 (zB 32), aA 0 (zB 32), aA 0 (zB 32), aA 0 (zB 32), aA 0 (zB 32)]) := rfl
  skip
  generalize (bs.drop 40).take 32 = s at t l hb hx hy
  generalize u4G bs 36 = a at c hb hx hy
  refine gob ?_
  refine eD c [0, 3] ?_
  iterate 2 (first | refine go1 ?_)
  refine lL (D.node [aA (u4G bs 0) ((bs.drop 4).take 32), aA a (zB 32), aA 0 (zB 32), aA 0 (zB 32), aA 0 (zB 32), aA 0 (zB 32), aA 0 (zB 32), aA 0 (zB 32)]) rfl rfl rfl rfl rfl rfl rfl rfl rfl ⟨(show 1 < 8 from by decide), trivial⟩ rfl ?_
  refine go ?_
  refine eD t [0, 3] ?_
  skip
  refine vC (D.node [aA (u4G bs 0) ((bs.drop 4).take 32), aA a s, aA 0 (zB 32), aA 0 (zB 32), aA 0 (zB 32), aA 0 (zB 32), aA 0 (zB 32), aA 0 (zB 32)]) rfl rfl rfl rfl rfl rfl rfl rfl rfl rfl rfl rfl rfl rfl rfl (by decide) rfl rfl ?_ ⟨by omega, trivial⟩ ⟨(show 1 < 8 from by decide), (by decide : 0 + 32 ≤ (List.replicate 32 (0 : BitVec 8)).length), trivial⟩ ?_ ?_
  ·exact congrArg (fun x => some (D.node [aA (u4G bs 0) ((bs.drop 4).take 32), aA a x, aA 0 (zB 32), aA 0 (zB 32), aA 0 (zB 32), aA 0 (zB 32), aA 0 (zB 32), aA 0 (zB 32)])) (sX (l := zB 32) (y := s) rfl l)
  ·show (List.take 32 (List.drop 0 s)).length = 32
   rw [List.drop_zero, List.length_take]; omega
  refine go ?_
  by_cases qa : a = 0
  ·refine Br.yes (decide_eq_true qa) ?_
   by_cases qs : s = zB 32
   ·subst qs
    subst qa
    refine gob ?_
    refine aQ (2, (D.node [aA (u4G bs 0) ((bs.drop 4).take 32), aA 0 (zB 32), aA 0 (zB 32), aA 0 (zB 32), aA 0 (zB 32), aA 0 (zB 32), aA 0 (zB 32), aA 0 (zB 32)])) [0, 1, 2, 3] viewA (h1 := ⟨Nat.le_of_ble_eq_true rfl, hy.symm, iW (R := R) ⟨hall, by rw [hb]; rfl⟩⟩) (h2 := (by decide : 8 - 2 < 8 - 1))
   ·have hx := hx (by rw [decide_eq_true qa, decide_eq_false qs]; rfl)
    subst hx
    refine gob ?_
    refine brY ?_ (h := by show (!((aA a s).eqb (aA 0 (zB 32)))) = true; rw [gU, decide_eq_false qs, Bool.and_false]; rfl)
    refine gob ?_
    refine aF [0]
  ·refine brN ?_ (decide_eq_false qa)
   refine gob ?_
   refine aQ (2, (D.node [aA (u4G bs 0) ((bs.drop 4).take 32), aA a s, aA 0 (zB 32), aA 0 (zB 32), aA 0 (zB 32), aA 0 (zB 32), aA 0 (zB 32), aA 0 (zB 32)])) [0, 1, 2, 3] viewA (h1 := ⟨Nat.le_of_ble_eq_true rfl, hy.symm, iW (R := R) ⟨hall, by rw [hb, decide_eq_false qa]; rfl⟩⟩) (h2 := (by decide : 8 - 2 < 8 - 1))
 ·have c := gS bs 72 216 none (by decide) (by omega)
  have t := gP bs 76 32 212 none (by decide) (by omega) (by decide)
  subst hd
  have l : ((bs.drop 76).take 32).length = 32 := by rw [List.length_take, List.length_drop]; omega
  have hb : lY bs (36 * 2) = (decide (u4G bs 72 = 0) && !decide ((bs.drop 76).take 32 = zB 32)) := rfl
  have hx := fG (bs := bs) (i := 2) (by decide)
  rw [hb, hR] at hx
  have hy : nZ bs 3 = (D.node [aA (u4G bs 0) ((bs.drop 4).take 32), aA (u4G bs 36) ((bs.drop 40).take 32), aA (u4G bs 72) ((bs.drop 76).take 32), aA 0 (zB 32), aA 0 (zB 32), aA 0 (zB 32), aA 0 (zB 32), aA 0 (zB 32)]) := rfl
  skip
  generalize (bs.drop 76).take 32 = s at t l hb hx hy
  generalize u4G bs 72 = a at c hb hx hy
  refine gob ?_
  refine eD c [0, 3] ?_
  iterate 2 (first | refine go1 ?_)
  refine lL (D.node [aA (u4G bs 0) ((bs.drop 4).take 32), aA (u4G bs 36) ((bs.drop 40).take 32), aA a (zB 32), aA 0 (zB 32), aA 0 (zB 32), aA 0 (zB 32), aA 0 (zB 32), aA 0 (zB 32)]) rfl rfl rfl rfl rfl rfl rfl rfl rfl ⟨(show 2 < 8 from by decide), trivial⟩ rfl ?_
  refine go ?_
  refine eD t [0, 3] ?_
  skip
  refine vC (D.node [aA (u4G bs 0) ((bs.drop 4).take 32), aA (u4G bs 36) ((bs.drop 40).take 32), aA a s, aA 0 (zB 32), aA 0 (zB 32), aA 0 (zB 32), aA 0 (zB 32), aA 0 (zB 32)]) rfl rfl rfl rfl rfl rfl rfl rfl rfl rfl rfl rfl rfl rfl rfl (by decide) rfl rfl ?_ ⟨by omega, trivial⟩ ⟨(show 2 < 8 from by decide), (by decide : 0 + 32 ≤ (List.replicate 32 (0 : BitVec 8)).length), trivial⟩ ?_ ?_
  ·exact congrArg (fun x => some (D.node [aA (u4G bs 0) ((bs.drop 4).take 32), aA (u4G bs 36) ((bs.drop 40).take 32), aA a x, aA 0 (zB 32), aA 0 (zB 32), aA 0 (zB 32), aA 0 (zB 32), aA 0 (zB 32)])) (sX (l := zB 32) (y := s) rfl l)
  ·show (List.take 32 (List.drop 0 s)).length = 32
   rw [List.drop_zero, List.length_take]; omega
  refine go ?_
  by_cases qa : a = 0
  ·refine Br.yes (decide_eq_true qa) ?_
   by_cases qs : s = zB 32
   ·subst qs
    subst qa
    refine gob ?_
    refine aQ (3, (D.node [aA (u4G bs 0) ((bs.drop 4).take 32), aA (u4G bs 36) ((bs.drop 40).take 32), aA 0 (zB 32), aA 0 (zB 32), aA 0 (zB 32), aA 0 (zB 32), aA 0 (zB 32), aA 0 (zB 32)])) [0, 1, 2, 3] viewA (h1 := ⟨Nat.le_of_ble_eq_true rfl, hy.symm, iW (R := R) ⟨hall, by rw [hb]; rfl⟩⟩) (h2 := (by decide : 8 - 3 < 8 - 2))
   ·have hx := hx (by rw [decide_eq_true qa, decide_eq_false qs]; rfl)
    subst hx
    refine gob ?_
    refine brY ?_ (h := by show (!((aA a s).eqb (aA 0 (zB 32)))) = true; rw [gU, decide_eq_false qs, Bool.and_false]; rfl)
    refine gob ?_
    refine aF [0]
  ·refine brN ?_ (decide_eq_false qa)
   refine gob ?_
   refine aQ (3, (D.node [aA (u4G bs 0) ((bs.drop 4).take 32), aA (u4G bs 36) ((bs.drop 40).take 32), aA a s, aA 0 (zB 32), aA 0 (zB 32), aA 0 (zB 32), aA 0 (zB 32), aA 0 (zB 32)])) [0, 1, 2, 3] viewA (h1 := ⟨Nat.le_of_ble_eq_true rfl, hy.symm, iW (R := R) ⟨hall, by rw [hb, decide_eq_false qa]; rfl⟩⟩) (h2 := (by decide : 8 - 3 < 8 - 2))
 ·have c := gS bs 108 180 none (by decide) (by omega)
  have t := gP bs 112 32 176 none (by decide) (by omega) (by decide)
  subst hd
  have l : ((bs.drop 112).take 32).length = 32 := by rw [List.length_take, List.length_drop]; omega
  have hb : lY bs (36 * 3) = (decide (u4G bs 108 = 0) && !decide ((bs.drop 112).take 32 = zB 32)) := rfl
  have hx := fG (bs := bs) (i := 3) (by decide)
  rw [hb, hR] at hx
  have hy : nZ bs 4 = (D.node [aA (u4G bs 0) ((bs.drop 4).take 32), aA (u4G bs 36) ((bs.drop 40).take 32), aA (u4G bs 72) ((bs.drop 76).take 32), aA (u4G bs 108) ((bs.drop 112).take 32), aA 0 (zB 32), aA 0 (zB 32), aA 0 (zB 32), aA 0 (zB 32)]) := rfl
  skip
  generalize (bs.drop 112).take 32 = s at t l hb hx hy
  generalize u4G bs 108 = a at c hb hx hy
  refine gob ?_
  refine eD c [0, 3] ?_
  iterate 2 (first | refine go1 ?_)
  refine lL (D.node [aA (u4G bs 0) ((bs.drop 4).take 32), aA (u4G bs 36) ((bs.drop 40).take 32), aA (u4G bs 72) ((bs.drop 76).take 32), aA a (zB 32), aA 0 (zB 32), aA 0 (zB 32), aA 0 (zB 32), aA 0 (zB 32)]) rfl rfl rfl rfl rfl rfl rfl rfl rfl ⟨(show 3 < 8 from by decide), trivial⟩ rfl ?_
  refine go ?_
  refine eD t [0, 3] ?_
  skip
  refine vC (D.node [aA (u4G bs 0) ((bs.drop 4).take 32), aA (u4G bs 36) ((bs.drop 40).take 32), aA (u4G bs 72) ((bs.drop 76).take 32), aA a s, aA 0 (zB 32), aA 0 (zB 32), aA 0 (zB 32), aA 0 (zB 32)]) rfl rfl rfl rfl rfl rfl rfl rfl rfl rfl rfl rfl rfl rfl rfl (by decide) rfl rfl ?_ ⟨by omega, trivial⟩ ⟨(show 3 < 8 from by decide), (by decide : 0 + 32 ≤ (List.replicate 32 (0 : BitVec 8)).length), trivial⟩ ?_ ?_
  ·exact congrArg (fun x => some (D.node [aA (u4G bs 0) ((bs.drop 4).take 32), aA (u4G bs 36) ((bs.drop 40).take 32), aA (u4G bs 72) ((bs.drop 76).take 32), aA a x, aA 0 (zB 32), aA 0 (zB 32), aA 0 (zB 32), aA 0 (zB 32)])) (sX (l := zB 32) (y := s) rfl l)
  ·show (List.take 32 (List.drop 0 s)).length = 32
   rw [List.drop_zero, List.length_take]; omega
  refine go ?_
  by_cases qa : a = 0
  ·refine Br.yes (decide_eq_true qa) ?_
   by_cases qs : s = zB 32
   ·subst qs
    subst qa
    refine gob ?_
    refine aQ (4, (D.node [aA (u4G bs 0) ((bs.drop 4).take 32), aA (u4G bs 36) ((bs.drop 40).take 32), aA (u4G bs 72) ((bs.drop 76).take 32), aA 0 (zB 32), aA 0 (zB 32), aA 0 (zB 32), aA 0 (zB 32), aA 0 (zB 32)])) [0, 1, 2, 3] viewA (h1 := ⟨Nat.le_of_ble_eq_true rfl, hy.symm, iW (R := R) ⟨hall, by rw [hb]; rfl⟩⟩) (h2 := (by decide : 8 - 4 < 8 - 3))
   ·have hx := hx (by rw [decide_eq_true qa, decide_eq_false qs]; rfl)
    subst hx
    refine gob ?_
    refine brY ?_ (h := by show (!((aA a s).eqb (aA 0 (zB 32)))) = true; rw [gU, decide_eq_false qs, Bool.and_false]; rfl)
    refine gob ?_
    refine aF [0]
  ·refine brN ?_ (decide_eq_false qa)
   refine gob ?_
   refine aQ (4, (D.node [aA (u4G bs 0) ((bs.drop 4).take 32), aA (u4G bs 36) ((bs.drop 40).take 32), aA (u4G bs 72) ((bs.drop 76).take 32), aA a s, aA 0 (zB 32), aA 0 (zB 32), aA 0 (zB 32), aA 0 (zB 32)])) [0, 1, 2, 3] viewA (h1 := ⟨Nat.le_of_ble_eq_true rfl, hy.symm, iW (R := R) ⟨hall, by rw [hb, decide_eq_false qa]; rfl⟩⟩) (h2 := (by decide : 8 - 4 < 8 - 3))
 ·have c := gS bs 144 144 none (by decide) (by omega)
  have t := gP bs 148 32 140 none (by decide) (by omega) (by decide)
  subst hd
  have l : ((bs.drop 148).take 32).length = 32 := by rw [List.length_take, List.length_drop]; omega
  have hb : lY bs (36 * 4) = (decide (u4G bs 144 = 0) && !decide ((bs.drop 148).take 32 = zB 32)) := rfl
  have hx := fG (bs := bs) (i := 4) (by decide)
  rw [hb, hR] at hx
  have hy : nZ bs 5 = (D.node [aA (u4G bs 0) ((bs.drop 4).take 32), aA (u4G bs 36) ((bs.drop 40).take 32), aA (u4G bs 72) ((bs.drop 76).take 32), aA (u4G bs 108) ((bs.drop 112).take 32), aA (u4G bs 144) ((bs.drop 148).take 32), aA 0 (zB 32), aA 0 (zB 32), aA 0 (zB 32)]) := rfl
  skip
  generalize (bs.drop 148).take 32 = s at t l hb hx hy
  generalize u4G bs 144 = a at c hb hx hy
  refine gob ?_
  refine eD c [0, 3] ?_
  iterate 2 (first | refine go1 ?_)
  refine lL (D.node [aA (u4G bs 0) ((bs.drop 4).take 32), aA (u4G bs 36) ((bs.drop 40).take 32), aA (u4G bs 72) ((bs.drop 76).take 32), aA (u4G bs 108) ((bs.drop 112).take 32), aA a (zB 32), aA 0 (zB 32), aA 0 (zB 32), aA 0 (zB 32)]) rfl rfl rfl rfl rfl rfl rfl rfl rfl ⟨(show 4 < 8 from by decide), trivial⟩ rfl ?_
  refine go ?_
  refine eD t [0, 3] ?_
  skip
  refine vC (D.node [aA (u4G bs 0) ((bs.drop 4).take 32), aA (u4G bs 36) ((bs.drop 40).take 32), aA (u4G bs 72) ((bs.drop 76).take 32), aA (u4G bs 108) ((bs.drop 112).take 32), aA a s, aA 0 (zB 32), aA 0 (zB 32), aA 0 (zB 32)]) rfl rfl rfl rfl rfl rfl rfl rfl rfl rfl rfl rfl rfl rfl rfl (by decide) rfl rfl ?_ ⟨by omega, trivial⟩ ⟨(show 4 < 8 from by decide), (by decide : 0 + 32 ≤ (List.replicate 32 (0 : BitVec 8)).length), trivial⟩ ?_ ?_
  ·exact congrArg (fun x => some (D.node [aA (u4G bs 0) ((bs.drop 4).take 32), aA (u4G bs 36) ((bs.drop 40).take 32), aA (u4G bs 72) ((bs.drop 76).take 32), aA (u4G bs 108) ((bs.drop 112).take 32), aA a x, aA 0 (zB 32), aA 0 (zB 32), aA 0 (zB 32)])) (sX (l := zB 32) (y := s) rfl l)
  ·show (List.take 32 (List.drop 0 s)).length = 32
   rw [List.drop_zero, List.length_take]; omega
  refine go ?_
  by_cases qa : a = 0
  ·refine Br.yes (decide_eq_true qa) ?_
   by_cases qs : s = zB 32
   ·subst qs
    subst qa
    refine gob ?_
    refine aQ (5, (D.node [aA (u4G bs 0) ((bs.drop 4).take 32), aA (u4G bs 36) ((bs.drop 40).take 32), aA (u4G bs 72) ((bs.drop 76).take 32), aA (u4G bs 108) ((bs.drop 112).take 32), aA 0 (zB 32), aA 0 (zB 32), aA 0 (zB 32), aA 0 (zB 32)])) [0, 1, 2, 3] viewA (h1 := ⟨Nat.le_of_ble_eq_true rfl, hy.symm, iW (R := R) ⟨hall, by rw [hb]; rfl⟩⟩) (h2 := (by decide : 8 - 5 < 8 - 4))
   ·have hx := hx (by rw [decide_eq_true qa, decide_eq_false qs]; rfl)
    subst hx
    refine gob ?_
    refine brY ?_ (h := by show (!((aA a s).eqb (aA 0 (zB 32)))) = true; rw [gU, decide_eq_false qs, Bool.and_false]; rfl)
    refine gob ?_
    refine aF [0]
  ·refine brN ?_ (decide_eq_false qa)
   refine gob ?_
   refine aQ (5, (D.node [aA (u4G bs 0) ((bs.drop 4).take 32), aA (u4G bs 36) ((bs.drop 40).take 32), aA (u4G bs 72) ((bs.drop 76).take 32), aA (u4G bs 108) ((bs.drop 112).take 32), aA a s, aA 0 (zB 32), aA 0 (zB 32), aA 0 (zB 32)])) [0, 1, 2, 3] viewA (h1 := ⟨Nat.le_of_ble_eq_true rfl, hy.symm, iW (R := R) ⟨hall, by rw [hb, decide_eq_false qa]; rfl⟩⟩) (h2 := (by decide : 8 - 5 < 8 - 4))
 ·have c := gS bs 180 108 none (by decide) (by omega)
  have t := gP bs 184 32 104 none (by decide) (by omega) (by decide)
  subst hd
  have l : ((bs.drop 184).take 32).length = 32 := by rw [List.length_take, List.length_drop]; omega
  have hb : lY bs (36 * 5) = (decide (u4G bs 180 = 0) && !decide ((bs.drop 184).take 32 = zB 32)) := rfl
  have hx := fG (bs := bs) (i := 5) (by decide)
  rw [hb, hR] at hx
  have hy : nZ bs 6 = (D.node [aA (u4G bs 0) ((bs.drop 4).take 32), aA (u4G bs 36) ((bs.drop 40).take 32), aA (u4G bs 72) ((bs.drop 76).take 32), aA (u4G bs 108) ((bs.drop 112).take 32), aA (u4G bs 144) ((bs.drop 148).take 32), aA (u4G bs 180) ((bs.drop 184).take 32), aA 0 (zB 32), aA 0 (zB 32)]) := rfl
  skip
  generalize (bs.drop 184).take 32 = s at t l hb hx hy
  generalize u4G bs 180 = a at c hb hx hy
  refine gob ?_
  refine eD c [0, 3] ?_
  iterate 2 (first | refine go1 ?_)
  refine lL (D.node [aA (u4G bs 0) ((bs.drop 4).take 32), aA (u4G bs 36) ((bs.drop 40).take 32), aA (u4G bs 72) ((bs.drop 76).take 32), aA (u4G bs 108) ((bs.drop 112).take 32), aA (u4G bs 144) ((bs.drop 148).take 32), aA a (zB 32), aA 0 (zB 32), aA 0 (zB 32)]) rfl rfl rfl rfl rfl rfl rfl rfl rfl ⟨(show 5 < 8 from by decide), trivial⟩ rfl ?_
  refine go ?_
  refine eD t [0, 3] ?_
  skip
  refine vC (D.node [aA (u4G bs 0) ((bs.drop 4).take 32), aA (u4G bs 36) ((bs.drop 40).take 32), aA (u4G bs 72) ((bs.drop 76).take 32), aA (u4G bs 108) ((bs.drop 112).take 32), aA (u4G bs 144) ((bs.drop 148).take 32), aA a s, aA 0 (zB 32), aA 0 (zB 32)]) rfl rfl rfl rfl rfl rfl rfl rfl rfl rfl rfl rfl rfl rfl rfl (by decide) rfl rfl ?_ ⟨by omega, trivial⟩ ⟨(show 5 < 8 from by decide), (by decide : 0 + 32 ≤ (List.replicate 32 (0 : BitVec 8)).length), trivial⟩ ?_ ?_
  ·exact congrArg (fun x => some (D.node [aA (u4G bs 0) ((bs.drop 4).take 32), aA (u4G bs 36) ((bs.drop 40).take 32), aA (u4G bs 72) ((bs.drop 76).take 32), aA (u4G bs 108) ((bs.drop 112).take 32), aA (u4G bs 144) ((bs.drop 148).take 32), aA a x, aA 0 (zB 32), aA 0 (zB 32)])) (sX (l := zB 32) (y := s) rfl l)
  ·show (List.take 32 (List.drop 0 s)).length = 32
   rw [List.drop_zero, List.length_take]; omega
  refine go ?_
  by_cases qa : a = 0
  ·refine Br.yes (decide_eq_true qa) ?_
   by_cases qs : s = zB 32
   ·subst qs
    subst qa
    refine gob ?_
    refine aQ (6, (D.node [aA (u4G bs 0) ((bs.drop 4).take 32), aA (u4G bs 36) ((bs.drop 40).take 32), aA (u4G bs 72) ((bs.drop 76).take 32), aA (u4G bs 108) ((bs.drop 112).take 32), aA (u4G bs 144) ((bs.drop 148).take 32), aA 0 (zB 32), aA 0 (zB 32), aA 0 (zB 32)])) [0, 1, 2, 3] viewA (h1 := ⟨Nat.le_of_ble_eq_true rfl, hy.symm, iW (R := R) ⟨hall, by rw [hb]; rfl⟩⟩) (h2 := (by decide : 8 - 6 < 8 - 5))
   ·have hx := hx (by rw [decide_eq_true qa, decide_eq_false qs]; rfl)
    subst hx
    refine gob ?_
    refine brY ?_ (h := by show (!((aA a s).eqb (aA 0 (zB 32)))) = true; rw [gU, decide_eq_false qs, Bool.and_false]; rfl)
    refine gob ?_
    refine aF [0]
  ·refine brN ?_ (decide_eq_false qa)
   refine gob ?_
   refine aQ (6, (D.node [aA (u4G bs 0) ((bs.drop 4).take 32), aA (u4G bs 36) ((bs.drop 40).take 32), aA (u4G bs 72) ((bs.drop 76).take 32), aA (u4G bs 108) ((bs.drop 112).take 32), aA (u4G bs 144) ((bs.drop 148).take 32), aA a s, aA 0 (zB 32), aA 0 (zB 32)])) [0, 1, 2, 3] viewA (h1 := ⟨Nat.le_of_ble_eq_true rfl, hy.symm, iW (R := R) ⟨hall, by rw [hb, decide_eq_false qa]; rfl⟩⟩) (h2 := (by decide : 8 - 6 < 8 - 5))
 ·have c := gS bs 216 72 none (by decide) (by omega)
  have t := gP bs 220 32 68 none (by decide) (by omega) (by decide)
  subst hd
  have l : ((bs.drop 220).take 32).length = 32 := by rw [List.length_take, List.length_drop]; omega
  have hb : lY bs (36 * 6) = (decide (u4G bs 216 = 0) && !decide ((bs.drop 220).take 32 = zB 32)) := rfl
  have hx := fG (bs := bs) (i := 6) (by decide)
  rw [hb, hR] at hx
  have hy : nZ bs 7 = (D.node [aA (u4G bs 0) ((bs.drop 4).take 32), aA (u4G bs 36) ((bs.drop 40).take 32), aA (u4G bs 72) ((bs.drop 76).take 32), aA (u4G bs 108) ((bs.drop 112).take 32), aA (u4G bs 144) ((bs.drop 148).take 32), aA (u4G bs 180) ((bs.drop 184).take 32), aA (u4G bs 216) ((bs.drop 220).take 32), aA 0 (zB 32)]) := rfl
  skip
  generalize (bs.drop 220).take 32 = s at t l hb hx hy
  generalize u4G bs 216 = a at c hb hx hy
  refine gob ?_
  refine eD c [0, 3] ?_
  iterate 2 (first | refine go1 ?_)
  refine lL (D.node [aA (u4G bs 0) ((bs.drop 4).take 32), aA (u4G bs 36) ((bs.drop 40).take 32), aA (u4G bs 72) ((bs.drop 76).take 32), aA (u4G bs 108) ((bs.drop 112).take 32), aA (u4G bs 144) ((bs.drop 148).take 32), aA (u4G bs 180) ((bs.drop 184).take 32), aA a (zB 32), aA 0 (zB 32)]) rfl rfl rfl rfl rfl rfl rfl rfl rfl ⟨(show 6 < 8 from by decide), trivial⟩ rfl ?_
  refine go ?_
  refine eD t [0, 3] ?_
  skip
  refine vC (D.node [aA (u4G bs 0) ((bs.drop 4).take 32), aA (u4G bs 36) ((bs.drop 40).take 32), aA (u4G bs 72) ((bs.drop 76).take 32), aA (u4G bs 108) ((bs.drop 112).take 32), aA (u4G bs 144) ((bs.drop 148).take 32), aA (u4G bs 180) ((bs.drop 184).take 32), aA a s, aA 0 (zB 32)]) rfl rfl rfl rfl rfl rfl rfl rfl rfl rfl rfl rfl rfl rfl rfl (by decide) rfl rfl ?_ ⟨by omega, trivial⟩ ⟨(show 6 < 8 from by decide), (by decide : 0 + 32 ≤ (List.replicate 32 (0 : BitVec 8)).length), trivial⟩ ?_ ?_
  ·exact congrArg (fun x => some (D.node [aA (u4G bs 0) ((bs.drop 4).take 32), aA (u4G bs 36) ((bs.drop 40).take 32), aA (u4G bs 72) ((bs.drop 76).take 32), aA (u4G bs 108) ((bs.drop 112).take 32), aA (u4G bs 144) ((bs.drop 148).take 32), aA (u4G bs 180) ((bs.drop 184).take 32), aA a x, aA 0 (zB 32)])) (sX (l := zB 32) (y := s) rfl l)
  ·show (List.take 32 (List.drop 0 s)).length = 32
   rw [List.drop_zero, List.length_take]; omega
  refine go ?_
  by_cases qa : a = 0
  ·refine Br.yes (decide_eq_true qa) ?_
   by_cases qs : s = zB 32
   ·subst qs
    subst qa
    refine gob ?_
    refine aQ (7, (D.node [aA (u4G bs 0) ((bs.drop 4).take 32), aA (u4G bs 36) ((bs.drop 40).take 32), aA (u4G bs 72) ((bs.drop 76).take 32), aA (u4G bs 108) ((bs.drop 112).take 32), aA (u4G bs 144) ((bs.drop 148).take 32), aA (u4G bs 180) ((bs.drop 184).take 32), aA 0 (zB 32), aA 0 (zB 32)])) [0, 1, 2, 3] viewA (h1 := ⟨Nat.le_of_ble_eq_true rfl, hy.symm, iW (R := R) ⟨hall, by rw [hb]; rfl⟩⟩) (h2 := (by decide : 8 - 7 < 8 - 6))
   ·have hx := hx (by rw [decide_eq_true qa, decide_eq_false qs]; rfl)
    subst hx
    refine gob ?_
    refine brY ?_ (h := by show (!((aA a s).eqb (aA 0 (zB 32)))) = true; rw [gU, decide_eq_false qs, Bool.and_false]; rfl)
    refine gob ?_
    refine aF [0]
  ·refine brN ?_ (decide_eq_false qa)
   refine gob ?_
   refine aQ (7, (D.node [aA (u4G bs 0) ((bs.drop 4).take 32), aA (u4G bs 36) ((bs.drop 40).take 32), aA (u4G bs 72) ((bs.drop 76).take 32), aA (u4G bs 108) ((bs.drop 112).take 32), aA (u4G bs 144) ((bs.drop 148).take 32), aA (u4G bs 180) ((bs.drop 184).take 32), aA a s, aA 0 (zB 32)])) [0, 1, 2, 3] viewA (h1 := ⟨Nat.le_of_ble_eq_true rfl, hy.symm, iW (R := R) ⟨hall, by rw [hb, decide_eq_false qa]; rfl⟩⟩) (h2 := (by decide : 8 - 7 < 8 - 6))
 ·have c := gS bs 252 36 none (by decide) (by omega)
  have t := gP bs 256 32 32 none (by decide) (by omega) (by decide)
  subst hd
  have l : ((bs.drop 256).take 32).length = 32 := by rw [List.length_take, List.length_drop]; omega
  have hb : lY bs (36 * 7) = (decide (u4G bs 252 = 0) && !decide ((bs.drop 256).take 32 = zB 32)) := rfl
  have hx := fG (bs := bs) (i := 7) (by decide)
  rw [hb, hR] at hx
  have hy : nZ bs 8 = (D.node [aA (u4G bs 0) ((bs.drop 4).take 32), aA (u4G bs 36) ((bs.drop 40).take 32), aA (u4G bs 72) ((bs.drop 76).take 32), aA (u4G bs 108) ((bs.drop 112).take 32), aA (u4G bs 144) ((bs.drop 148).take 32), aA (u4G bs 180) ((bs.drop 184).take 32), aA (u4G bs 216) ((bs.drop 220).take 32), aA (u4G bs 252) ((bs.drop 256).take 32)]) := rfl
  skip
  generalize (bs.drop 256).take 32 = s at t l hb hx hy
  generalize u4G bs 252 = a at c hb hx hy
  refine gob ?_
  refine eD c [0, 3] ?_
  iterate 2 (first | refine go1 ?_)
  refine lL (D.node [aA (u4G bs 0) ((bs.drop 4).take 32), aA (u4G bs 36) ((bs.drop 40).take 32), aA (u4G bs 72) ((bs.drop 76).take 32), aA (u4G bs 108) ((bs.drop 112).take 32), aA (u4G bs 144) ((bs.drop 148).take 32), aA (u4G bs 180) ((bs.drop 184).take 32), aA (u4G bs 216) ((bs.drop 220).take 32), aA a (zB 32)]) rfl rfl rfl rfl rfl rfl rfl rfl rfl ⟨(show 7 < 8 from by decide), trivial⟩ rfl ?_
  refine go ?_
  refine eD t [0, 3] ?_
  skip
  refine vC (D.node [aA (u4G bs 0) ((bs.drop 4).take 32), aA (u4G bs 36) ((bs.drop 40).take 32), aA (u4G bs 72) ((bs.drop 76).take 32), aA (u4G bs 108) ((bs.drop 112).take 32), aA (u4G bs 144) ((bs.drop 148).take 32), aA (u4G bs 180) ((bs.drop 184).take 32), aA (u4G bs 216) ((bs.drop 220).take 32), aA a s]) rfl rfl rfl rfl rfl rfl rfl rfl rfl rfl rfl rfl rfl rfl rfl (by decide) rfl rfl ?_ ⟨by omega, trivial⟩ ⟨(show 7 < 8 from by decide), (by decide : 0 + 32 ≤ (List.replicate 32 (0 : BitVec 8)).length), trivial⟩ ?_ ?_
  ·exact congrArg (fun x => some (D.node [aA (u4G bs 0) ((bs.drop 4).take 32), aA (u4G bs 36) ((bs.drop 40).take 32), aA (u4G bs 72) ((bs.drop 76).take 32), aA (u4G bs 108) ((bs.drop 112).take 32), aA (u4G bs 144) ((bs.drop 148).take 32), aA (u4G bs 180) ((bs.drop 184).take 32), aA (u4G bs 216) ((bs.drop 220).take 32), aA a x])) (sX (l := zB 32) (y := s) rfl l)
  ·show (List.take 32 (List.drop 0 s)).length = 32
   rw [List.drop_zero, List.length_take]; omega
  refine go ?_
  by_cases qa : a = 0
  ·refine Br.yes (decide_eq_true qa) ?_
   by_cases qs : s = zB 32
   ·subst qs
    subst qa
    refine gob ?_
    refine aQ (8, (D.node [aA (u4G bs 0) ((bs.drop 4).take 32), aA (u4G bs 36) ((bs.drop 40).take 32), aA (u4G bs 72) ((bs.drop 76).take 32), aA (u4G bs 108) ((bs.drop 112).take 32), aA (u4G bs 144) ((bs.drop 148).take 32), aA (u4G bs 180) ((bs.drop 184).take 32), aA (u4G bs 216) ((bs.drop 220).take 32), aA 0 (zB 32)])) [0, 1, 2, 3] viewA (h1 := ⟨Nat.le_of_ble_eq_true rfl, hy.symm, iW (R := R) ⟨hall, by rw [hb]; rfl⟩⟩) (h2 := (by decide : 8 - 8 < 8 - 7))
   ·have hx := hx (by rw [decide_eq_true qa, decide_eq_false qs]; rfl)
    subst hx
    refine gob ?_
    refine brY ?_ (h := by show (!((aA a s).eqb (aA 0 (zB 32)))) = true; rw [gU, decide_eq_false qs, Bool.and_false]; rfl)
    refine gob ?_
    refine aF [0]
  ·refine brN ?_ (decide_eq_false qa)
   refine gob ?_
   refine aQ (8, (D.node [aA (u4G bs 0) ((bs.drop 4).take 32), aA (u4G bs 36) ((bs.drop 40).take 32), aA (u4G bs 72) ((bs.drop 76).take 32), aA (u4G bs 108) ((bs.drop 112).take 32), aA (u4G bs 144) ((bs.drop 148).take 32), aA (u4G bs 180) ((bs.drop 184).take 32), aA (u4G bs 216) ((bs.drop 220).take 32), aA a s])) [0, 1, 2, 3] viewA (h1 := ⟨Nat.le_of_ble_eq_true rfl, hy.symm, iW (R := R) ⟨hall, by rw [hb, decide_eq_false qa]; rfl⟩⟩) (h2 := (by decide : 8 - 8 < 8 - 7))
 ·subst hd
  have hx := aDw hall
  rw [hR] at hx
  subst hx
  refine gob ?_
  refine aB e1 [0, 3] ?_
  refine aB e2 [0, 3] ?_
  refine aF [0]
theorem aDk {Q : B8} (h : 288 ≤ Q.length) : ∃ (a0 a1 a2 a3 a4 a5 a6 a7 : BitVec 32) (s0 s1 s2 s3 s4 s5 s6 s7 : B8), aAg Q = zJ a0 a1 a2 a3 a4 a5 a6 a7 s0 s1 s2 s3 s4 s5 s6 s7 ∧ s0.length = 32 ∧ s1.length = 32 ∧ s2.length = 32 ∧ s3.length = 32 ∧ s4.length = 32 ∧ s5.length = 32 ∧ s6.length = 32 ∧ s7.length = 32 := by
 have l : ∀ o, o + 32 ≤ 288 → ((Q.drop o).take 32).length = 32 := fun o ho => by rw [List.length_take, List.length_drop]; omega
 exact ⟨_, _, _, _, _, _, _, _, _, _, _, _, _, _, _, _, rfl, l 4 (by decide), l 40 (by decide), l 76 (by decide), l 112 (by decide), l 148 (by decide), l 184 (by decide), l 220 (by decide), l 256 (by decide)⟩
theorem aDj : AC Tryz.prog 68 [uC] 0 [] ⟨.slice 0 [] 0 288 none, [], [(.row .cell, .u8s (dK 0 0 0 0 0 0 0 0 (zB 32) (zB 32) (zB 32) (zB 32) (zB 32) (zB 32) (zB 32) (zB 32)))]⟩ :=
 xC 0 0 0 0 0 0 0 0 (zB 32) (zB 32) (zB 32) (zB 32) (zB 32) (zB 32) (zB 32) (zB 32) (by simp) (by simp) (by simp) (by simp) (by simp) (by simp) (by simp) (by simp)
theorem vB (most N : Nat) (cap : Option Nat) (N2 : Nat) (cap2 : Option Nat) (ls : List Lo) (st p k : Nat) (hq : N < p + k) (hN : N < 70368744177664) (hp : p < 70368744177664) (hk : k < 70368744177664) :
  AC Tryz.prog 91 [.ptr 0 [], .i64 p, .i64 k] 4
   [(0, some ⟨tDv, dvD most N cap N2 cap2 (oY 3 ls) st, false⟩)]
   ⟨.tup [.nilslice, .i64 43], [], []⟩ := by
 have hu := aAK most N cap N2 cap2 ls st
 by_cases h : N < p
 ·refine acA tab mix Tryz.func91 {} ?_
  cases ls
  all_goals
   refine gob ?_
   refine aB hu [0, 1, 2, 3] ?_
   refine aF [0, 1, 2, 3]
 ·refine acA tab mix Tryz.func91 {} ?_
  cases ls
  all_goals
   refine gob ?_
   refine aB hu [0, 1, 2, 3] ?_
   refine aF [0, 1, 2, 3]

abbrev Rf := BitVec 32 × B8
abbrev rf0 : Rf := (0, List.replicate 32 0)
structure TS where
 S : B8
 ls : List Lo
 st : Nat
 p : Nat → Bool
 U : Nat
 tk : List Nat
def aBP (p : Nat → Bool) : Nat → Nat → Nat
 |0, j => j
 |k + 1, j => bif p j then aBP p k (j + 1) else j
def kP (p : Nat → Bool) : Nat → Nat
 |0 => 0
 |k + 1 => kP p k + (bif p k then 1 else 0)
theorem aCT (p : Nat → Bool) : ∀ k j, j ≤ aBP p k j ∧ aBP p k j ≤ j + k
 |0, j => ⟨Nat.le_refl _, Nat.le_refl _⟩
 |k + 1, j => by
  rw [aBP]
  cases p j with
  |false => exact ⟨Nat.le_refl _, by simp only [cond]; omega⟩
  |true => have := aCT p k (j + 1); simp only [cond]; omega
theorem n4 (p : Nat → Bool) : ∀ k j, ∀ i, j ≤ i → i < aBP p k j → p i = true
 |0, j, i, h1, h2 => by rw [aBP] at h2; omega
 |k + 1, j, i, h1, h2 => by
  rw [aBP] at h2
  cases hp : p j with
  |false => rw [hp] at h2; simp only [cond] at h2; omega
  |true =>
   rw [hp] at h2; simp only [cond] at h2
   by_cases hi : i = j
   ·rw [hi]; exact hp
   ·exact n4 p k (j + 1) i (by omega) h2
theorem uK (p : Nat → Bool) : ∀ k j, aBP p k j < j + k → p (aBP p k j) = false
 |0, j, h => by rw [aBP] at h; omega
 |k + 1, j, h => by
  rw [aBP] at h ⊢
  cases hp : p j with
  |false => simp only [cond]; exact hp
  |true =>
   rw [hp] at h; simp only [cond] at h ⊢
   exact uK p k (j + 1) (by omega)
theorem dU (p : Nat → Bool) : ∀ k, kP p k ≤ k
 |0 => Nat.le_refl _
 |k + 1 => by have := dU p k; rw [kP]; cases p k <;> simp only [cond] <;> omega
theorem aAA (p : Nat → Bool) : ∀ k, (∀ i, i < k → p i = true) → kP p k = k
 |0, _ => rfl
 |k + 1, h => by rw [kP, aAA p k (fun i hi => h i (by omega)), h k (by omega)]; rfl
theorem z9 (p : Nat → Bool) (f : Nat) (b : Bool) : ∀ k, k ≤ f → kP (iH p f b) k = kP p k
 |0, _ => rfl
 |k + 1, h => by rw [kP, kP, z9 p f b k (by omega), iH, if_neg (by omega)]
theorem mU (p : Nat → Bool) (f : Nat) (hp : p f = false) : ∀ k, f < k → kP (iH p f true) k = kP p k + 1
 |0, h => by omega
 |k + 1, h => by
  rw [kP, kP]
  by_cases hk : f = k
  ·subst hk
   rw [z9 p f true f (Nat.le_refl _), iH, if_pos rfl, hp]; rfl
  ·rw [mU p f hp k (by omega), iH, if_neg (fun e => hk e.symm)]; omega
abbrev lowP (p : Nat → Bool) (T : Nat) : Nat := aBP p T 0
section
variable {p : Nat → Bool} {T : Nat} (h : kP p T < T)
include p T h
theorem aEg : lowP p T < T := by
 have h1 := aCT p T 0
 rcases Nat.lt_or_ge (lowP p T) T with h2 | h2
 ·exact h2
 ·exfalso
  have := aAA p T fun i hi => n4 p T 0 i (Nat.zero_le _) (Nat.lt_of_lt_of_le hi h2)
  omega
theorem aFm : Low p (lowP p T) :=
 ⟨uK p T 0 (by have := aEg h; simpa using this), fun j hj => n4 p T 0 j (Nat.zero_le _) hj⟩
end
structure TOk (T : Nat) (s : TS) : Prop where
 cnt : s.U = kP s.p T
 few : T ≤ 4096
 fst : 4096 ≤ s.S.length
 most : s.S.length ≤ 4096 + 512 * T
 laid : ∀ n, n + 1 < T → s.p n = true → 512 * (9 + n) ≤ s.S.length
 los : ∀ x ∈ s.ls, x.bytes.length = 512
def TS.low (T : Nat) (s : TS) : Nat := lowP s.p T
def TS.take (T : Nat) (s : TS) : TS := { s with p := iH s.p (s.low T) true, U := s.U + 1, tk := s.tk ++ [s.low T] }
def TS.lay (T : Nat) (s : TS) (Q : B8) : TS :=
 { s.take T with S := aY s.S Q (512 * (8 + s.low T)), ls := s.ls ++ [loF (aY s.S Q (512 * (8 + s.low T))) (8 + s.low T)], st := s.st + 1 }
section
variable {T : Nat} {s : TS} (h : TOk T s) (hU : s.U ≠ T)
include T s h hU
theorem TOk.lt : s.low T < T := aEg (by have := h.cnt; have := dU s.p T; omega)
theorem TOk.low : Low s.p (s.low T) := aFm (by have := h.cnt; have := dU s.p T; omega)
theorem TOk.at : 512 * (8 + s.low T) ≤ s.S.length := by
 have h1 := h.lt hU
 have h2 := h.low hU
 have h3 := h.fst
 cases hf : s.low T with
 |zero => omega
 |succ k =>
  have := h.laid k (by omega) (h2.used k (by omega))
  omega
theorem TOk.take (hl : 512 * (9 + s.low T) ≤ s.S.length) : TOk T (s.take T) := by
 have h1 := h.lt hU
 have h2 := h.low hU
 refine ⟨?_, h.few, h.fst, h.most, fun n hn hp => ?_, h.los⟩
 ·show s.U + 1 = kP (iH s.p (s.low T) true) T
  rw [mU _ _ h2.free T h1, h.cnt]
 ·have hp : iH s.p (s.low T) true n = true := hp
  unfold iH at hp
  split at hp
  ·subst_vars; exact hl
  ·exact h.laid n hn hp
end
theorem iQ {T : Nat} {s : TS} {Q : B8} (hQ : Q.length = 512) : (s.lay T Q).S.length = max s.S.length (512 * (9 + s.low T)) := by
 show (aY _ _ _).length = _
 rw [cX, hQ]; omega
theorem TOk.lay {T : Nat} {s : TS} (h : TOk T s) (hU : s.U ≠ T) {Q : B8} (hQ : Q.length = 512) : TOk T (s.lay T Q) := by
 have h1 := h.lt hU
 have h2 := h.low hU
 have hl := iQ (T := T) (s := s) hQ
 have hf := h.fst
 have hm := h.most
 refine ⟨?_, h.few, by omega, by omega, fun n hn hp => ?_, fun x hx => ?_⟩
 ·show s.U + 1 = kP (iH s.p (s.low T) true) T
  rw [mU _ _ h2.free T h1, h.cnt]
 ·have hp : iH s.p (s.low T) true n = true := hp
  unfold iH at hp
  split at hp
  ·subst_vars; omega
  ·have := h.laid n hn hp; omega
 ·have hx : x ∈ s.ls ++ [loF (s.lay T Q).S (8 + s.low T)] := hx
  rcases List.mem_append.1 hx with hx | hx
  ·exact h.los x hx
  ·have : x = loF (s.lay T Q).S (8 + s.low T) := by simpa using hx
   rw [this]; exact bD _ _ (by omega)
abbrev tLay : Ty := .st [.cell, .cell, .cell]
def takD (b : Nat) : List Nat → D
 |[] => .nilslice
 |_ :: l => .slice b [] 0 (l.length + 1) none
abbrev aCx (l : List Nat) : D := .u32s (l.map (BitVec.ofNat 32))
abbrev aCy (b : Nat) : List Nat → Mem
 |[] => []
 |a :: l => [(b, some ⟨.row .cell, aCx (a :: l), true⟩)]
abbrev layD (tk : D) : D := .node [.ptr 0 [], .ptr 1 [], tk]
abbrev tkM (T U : Nat) (p : Nat → Bool) (tk : List Nat) : Mem :=
 aCy 4 tk ++ [(1, some ⟨sK, .node [.i64 T, .i64 U, .slice 2 [] 0 ((T + 63) / 64) none], true⟩), (2, some ⟨.row .cell, qY p T, true⟩), (3, some ⟨tLay, layD (takD 4 tk), true⟩), gDb]
theorem aEy (a : Nat) (l : List Nat) (f : Nat) : D.u32s (List.take (l.length + 1) (List.drop 0 (List.map (BitVec.ofNat 32) (a :: l))) ++ List.take 1 (List.drop 0 ((List.replicate 1 (0 : BitVec 32)).set 0 (BitVec.ofNat 32 f)))) = aCx (a :: l ++ [f]) := by
 rw [List.drop_zero, List.take_of_length_le (by simp)]
 simp [aCx]
theorem lO (T : Nat) (p : Nat → Bool) (tk : List Nat) (hT : T ≤ 4096) :
  AC Tryz.prog 65 [.ptr 3 []] 5 (tkM T T p tk) ⟨.tup [.u32 0, .i64 21], [], []⟩ := by
 have h := aCu T ((T + 63) / 64) none (by omega)
 refine acA tab mix Tryz.func65 {} ?_
 cases tk
 all_goals
  refine gob ?_
  refine aB h [1, 2] ?_
  refine aF [0, 1, 2, 3, 4]
theorem rP (T U f : Nat) (p : Nat → Bool) (tk : List Nat) (hl : Low p f) (hf : f < T) (hU : U < T) (hT : T ≤ 4096) (htk : tk.length < 4096) :
  AC Tryz.prog 65 [.ptr 3 []] 5 (tkM T U p tk) ⟨.tup [.u32 (BitVec.ofNat 32 f), .i64 0], (aCy 4 tk).map (fun p => (p.1, none)) ++ [(1, some (.node [.i64 T, .i64 (U + 1 : Nat), .slice 2 [] 0 ((T + 63) / 64) none])), (2, some (qY (iH p f true) T)), (3, some (layD (.slice 5 [] 0 (tk.length + 1) none)))], [(.row .cell, aCx (tk ++ [f]))]⟩ := by
 have h := aDO p T U f none hl hf (by omega) hU
 refine acA tab mix Tryz.func65 {} ?_
 cases tk
 ·refine gob ?_
  refine aB h [1, 2] ?_
  refine ⟨1, ?_⟩
  refine gob ?_
  refine aF [0, 1, 2, 3, 4, 6]
 ·rename_i a l
  have htk : l.length + 1 < 4096 := htk
  refine gob ?_
  refine aB h [1, 2] ?_
  refine ⟨0, ?_⟩
  refine gob ?_
  refine aF [0, 1, 2, 3, 4, 6] (h3 := ?_)
  (repeat' (first | exact trivial | refine And.intro ⟨_, rfl, rfl, ?_, id⟩ ?_ | refine And.intro ⟨_, rfl, rfl, ?_, fun _ => rfl⟩ ?_)) <;> first | rfl | exact aEy a l f
abbrev aFE (d x c p : Nat) (tag : B8) : D := .node [.ptr d [], aDx c p, .ptr x [], .u8s tag]
abbrev pC (c p : Nat) (tag : B8) (k1 k2 : List B8) (most N : Nat) (cap : Option Nat) (N2 : Nat) (cap2 : Option Nat) (ls : List Lo) (st : Nat) (S : B8) : Mem :=
 fB 3 ls ++ [(0, some ⟨tDv, dvD most N cap N2 cap2 (oY 3 ls) st, true⟩), (1, some ⟨.row .cell, .u8s S, true⟩), (4, some ⟨tSp, aFE 0 5 c p tag, true⟩), (5, some ⟨tX, .node [.ptr 6 [], .ptr 7 []], true⟩), (6, some ⟨tC, bP k1, true⟩), (7, some ⟨tC, bP k2, true⟩), gR]
def gV (p : Nat) (b : B8) : B8 := b ++ List.replicate (512 * p - b.length) 0
theorem i8 {p : Nat} {b : B8} (h : b.length ≤ 512 * p) : (gV p b).length = 512 * p := by rw [gV, List.length_append, List.length_replicate]; omega
theorem cF (d x c p : Nat) (tag : B8) (hd : d < 3) (hx : x < 3) (hp : p ≤ 2) : AC Tryz.prog 93 [.ptr 0 []] 3 [(0, some ⟨tSp, aFE 1 2 c p tag, false⟩)] ⟨.i64 (512 * p : Nat), [], []⟩ := by
 have e : (((512 * p : Nat) : Int)) = (p : Int) * 512 := by omega
 rw [e]
 refine acA tab mix Tryz.func93 {} ?_
 refine gob ?_
 refine aF [0, 1, 2]
theorem cB (c p : Nat) (n : BitVec 32) (q : Nat) (hq : q = 8 + n.toNat * p) (hc : 1 ≤ c) (hc2 : c ≤ 64) (hp : 1 ≤ p) (hp2 : p ≤ 2) (hn : n.toNat ≤ 65535) : AC Tryz.prog 92 [aDx c p, .u32 n] 0 [] ⟨.i64 (512 * q : Nat), [], []⟩ := by
 have h := aDc c p n hc hc2 hp hp2 hn
 rw [show ((8 + (n.toNat : Int) * (p : Int)) * 512) = ((512 * q : Nat) : Int) by rw [hq, ← Int.natCast_mul]; omega] at h
 exact h
theorem kU (c p : Nat) (tag : B8) (n : BitVec 32) (q : Nat) (hq : q = 8 + n.toNat * p) (hc : 1 ≤ c) (hc2 : c ≤ 64) (hp : 1 ≤ p) (hp2 : p ≤ 2) (hn : n.toNat ≤ 65535) : AC Tryz.prog 63 [.ptr 0 [], .u32 n] 3 [(0, some ⟨tSp, aFE 1 2 c p tag, false⟩)] ⟨.u64 (BitVec.ofNat 64 q), [], []⟩ := by
 have h := cB c p n q hq hc hc2 hp hp2 hn
 have hql : q ≤ 200000 := by
  have := Nat.mul_le_mul hn hp2
  omega
 clear hq
 have e : Int.tdiv ((512 * q : Nat) : Int) 512 = ((q : Nat) : Int) := by
  have h0 : Int.tdiv ((512 * q : Nat) : Int) ((512 : Nat) : Int) = ((512 * q / 512 : Nat) : Int) := rfl
  have h1 : 512 * q / 512 = q := Nat.mul_div_cancel_left _ (by decide)
  rw [h1] at h0; exact h0
 have e2 : BitVec.ofNat 64 q = BitVec.ofInt 64 (Int.tdiv ((512 * q : Nat) : Int) 512) := by rw [e]; rfl
 rw [e2]
 have hI : inI (Int.tdiv ((512 * q : Nat) : Int) 512) := by rw [e]; unfold inI; omega
 clear e e2
 refine acA tab mix Tryz.func63 {} ?_
 refine gob ?_
 refine aB h [] ?_
 refine aF [0, 1, 2]
theorem kB (c p : Nat) (tag bs : B8) (n : BitVec 32) (o k : Nat) (cap : Option Nat) (ht : tag.length = 32) (h : o + k ≤ bs.length) (hk0 : 0 < k) (hk : k ≤ 10000000) :
  AC Tryz.prog 96 [.slice 0 [] o k cap, .ptr 1 [], .ptr 2 []] 6 [(0, some ⟨.row .cell, .u8s bs, false⟩), (1, some ⟨.cell, .ptr 3 [], false⟩), (2, some ⟨.cell, .u32 n, false⟩), (3, some ⟨tSp, aFE 4 5 c p tag, false⟩), gR] ⟨.u8s (bG tag n ((bs.drop o).take k)), [], []⟩ := by
 have h1 := aDl tag bs n o k cap ht h hk0 hk
 have hy := aI tag n ((bs.drop o).take k)
 generalize bG tag n ((bs.drop o).take k) = y at h1 hy ⊢
 refine acA tab mix Tryz.func96 {} ?_
 refine gob ?_
 refine aB h1 [0] ?_
 refine aF [0, 1, 2, 3, 4, 5]
def loP (S : B8) (q : Nat) : Nat → List Lo
 |2 => [loF S q, loF S (q + 1)]
 |_ => [loF S q]
section
variable (most N : Nat) (cap : Option Nat) (N2 : Nat) (cap2 : Option Nat) (ls : List Lo) (hls : ∀ x ∈ ls, x.bytes.length = 512) (st q o p : Nat) (hp1 : 1 ≤ p) (hp2 : p ≤ 2) (cap3 : Option Nat) (S B : B8) (hS : S.length = N)
include most N cap N2 cap2 ls hls st q o p hp1 hp2 cap3 S B hS
theorem oL (hq : 512 * q + 512 * p ≤ N) (hB : o + 512 * p ≤ B.length) (hN : N ≤ most) (hm : most ≤ 16777216) (hl : ls.length < 1000) (hst : st < 1000) :
  AC Tryz.prog 139 [.ptr 0 [], .i64 (512 * q : Nat), .slice 4 [] o (512 * p) cap3] 5
   (fB 3 ls ++ [(0, some ⟨tDv, dvD most N cap N2 cap2 (oY 3 ls) st, true⟩), (1, some ⟨.row .cell, .u8s S, true⟩), (4, some ⟨.row .cell, .u8s B, false⟩)])
   ⟨.i64 0, (fB 3 ls).map (fun p => (p.1, none)) ++ [(0, some (dvD most N cap N2 cap2 (.slice 5 [] 0 (ls.length + p) none) (st + 1))), (1, some (.u8s (aY S ((B.drop o).take (512 * p)) (512 * q))))], [(.row tLo, b6 (ls ++ loP (aY S ((B.drop o).take (512 * p)) (512 * q)) q p))]⟩ := by
 have : p = 1 ∨ p = 2 := by omega
 rcases this with rfl | rfl
 ·exact u9 most N cap N2 cap2 ls hls st q o cap3 S B hS hq hB hN hm hl hst
 ·have h := u7 most N cap N2 cap2 ls hls st q o cap3 S B hS hq hB hN hm hl hst
  rw [List.append_assoc] at h
  exact h
theorem oK (hq : N < 512 * q + 512 * p) (hB : o + 512 * p ≤ B.length) (hN : N ≤ most) (hm : most ≤ 16777216) (hq2 : 512 * q ≤ N) (hf : 512 * q + 512 * p ≤ most) (hl : ls.length < 1000) (hst : st < 1000) :
  AC Tryz.prog 139 [.ptr 0 [], .i64 (512 * q : Nat), .slice 4 [] o (512 * p) cap3] 5
   (fB 3 ls ++ [(0, some ⟨tDv, dvD most N cap N2 cap2 (oY 3 ls) st, true⟩), (1, some ⟨.row .cell, .u8s S, true⟩), (4, some ⟨.row .cell, .u8s B, false⟩)])
   ⟨.i64 0, (fB 3 ls).map (fun p => (p.1, none)) ++ [(0, some (.node [.i64 most, .slice 5 [] 0 (512 * q + 512 * p) none, .slice 2 [] 0 N2 cap2, .slice 6 [] 0 (ls.length + p) none, .i64 (st + 1), .bool false, .nilptr])), (1, none)], [(.row .cell, .u8s (aY S ((B.drop o).take (512 * p)) (512 * q))), (.row tLo, b6 (ls ++ loP (aY S ((B.drop o).take (512 * p)) (512 * q)) q p))]⟩ := by
 have : p = 1 ∨ p = 2 := by omega
 rcases this with rfl | rfl
 ·exact u6 most N cap N2 cap2 ls hls st q o cap3 S B hS hq hB hN hm hq2 hf hl hst
 ·have h := u5 most N cap N2 cap2 ls hls st q o cap3 S B hS hq hB hN hm hq2 hf hl hst
  rw [List.append_assoc] at h
  exact h
end
theorem mI (bs : B8) (o k p : Nat) (cap : Option Nat) (h : o + k ≤ bs.length) (hk : k ≤ 512 * p) (hp : p ≤ 2) :
  AC Tryz.prog 81 [.slice 0 [] o k cap, .i64 (512 * p : Nat)] 1 [(0, some ⟨.row .cell, .u8s bs, false⟩)] ⟨.tup [.slice 1 [] 0 (512 * p) none, .i64 0], [], [(.row .cell, .u8s (gV p ((bs.drop o).take k)))]⟩ := by
 have hbl : ((bs.drop o).take k).length = k := by rw [List.length_take, List.length_drop]; omega
 have h := aCA bs o k (512 * p) cap h hk (by omega)
 rw [show (bs.drop o).take k ++ List.replicate (512 * p - k) 0 = gV p ((bs.drop o).take k) by rw [gV, hbl]] at h
 exact h
section
variable (c p : Nat) (hp1 : 1 ≤ p) (hp2 : p ≤ 2) (f : Nat) (F : B8 → B8) (hF : ∀ b, (F b).length = 32) (hf : ∀ (bs : B8), bs.length = 512 * p → AC Tryz.prog f [.slice 0 [] 0 (512 * p) none] 1 [(0, some ⟨.row .cell, .u8s bs, false⟩), gR] ⟨.u8s (F bs), [], []⟩) (tag : B8) (k1 k2 : List B8) (most N : Nat) (cap : Option Nat) (N2 : Nat) (cap2 : Option Nat) (ls : List Lo) (st : Nat) (S : B8) (n : BitVec 32) (q : Nat) (B : B8) (o k : Nat) (cap3 : Option Nat) (hB : o + k ≤ B.length) (hk : k ≤ 512 * p) (hqn : q = 8 + n.toNat * p) (hc : 1 ≤ c) (hc2 : c ≤ 64) (ht : tag.length = 32) (hls : ∀ x ∈ ls, x.bytes.length = 512) (hS : S.length = N) (hn : n.toNat ≤ 65535)
include c p hp1 hp2 f F hF hf tag k1 k2 most N cap N2 cap2 ls st S n q B o k cap3 hB hk hqn hc hc2 ht hls hS hn
theorem wK (hq : 512 * q + 512 * p ≤ N) (hN : N ≤ most) (hm : most ≤ 16777216) (hl : ls.length < 1000) (hst : st < 1000) :
  AC Tryz.prog 102 [.ptr 4 [], .u32 n, .slice 8 [] o k cap3, .fn f [] []] 9 (pC c p tag k1 k2 most N cap N2 cap2 ls st S ++ [(8, some ⟨.row .cell, .u8s B, false⟩)])
   ⟨.tup [aA (n + 1) (F (gV p ((B.drop o).take k))), .i64 0], (fB 3 ls).map (fun p => (p.1, none)) ++ [(0, some (dvD most N cap N2 cap2 (.slice 9 [] 0 (ls.length + p) none) (st + 1))), (1, some (.u8s (aY S (gV p ((B.drop o).take k)) (512 * q))))], [(.row tLo, b6 (ls ++ loP (aY S (gV p ((B.drop o).take k)) (512 * q)) q p))]⟩ := by
 have hsz := cF 0 0 c p tag (by decide) (by decide) hp2
 have hpl := cB c p n q hqn hc hc2 hp1 hp2 hn
 have hql : q ≤ 200000 := by have := Nat.mul_le_mul hn hp2; omega
 clear hqn
 have hpd := mI B o k p cap3 hB hk hp2
 have hPl : (gV p ((B.drop o).take k)).length = 512 * p := i8 (by rw [List.length_take]; omega)
 generalize gV p ((B.drop o).take k) = Q at hpd hPl ⊢
 have hw := oL most N cap N2 cap2 ls hls st q 0 p hp1 hp2 none S Q hS hq (by omega) hN hm hl hst
 rw [List.drop_zero, List.take_of_length_le (by omega)] at hw
 have hsum := hf Q hPl
 have hFl := hF Q
 generalize F Q = sum at hsum hFl ⊢
 generalize aY S Q (512 * q) = S' at hw ⊢
 refine acA tab mix Tryz.func102 {} ?_
 cases ls
 all_goals
  refine gob ?_
  refine brN ?_ (decide_eq_false (show ¬ 65535 < n.toNat by omega))
  refine gob ?_
  refine aB hsz [4, 0, 5] ?_
  refine aB hpd [8] ?_
  refine aB hpl [] ?_
  refine aB hw [0, 1, 2, 3, 10] ?_
  refine aB hsum [10] ?_
  refine aF [0, 1, 2, 3, 4, 5, 6, 7, 8, 11]
theorem wJ (hq : N < 512 * q + 512 * p) (hq2 : 512 * q ≤ N) (hfu : 512 * q + 512 * p ≤ most) (hN : N ≤ most) (hm : most ≤ 16777216) (hl : ls.length < 1000) (hst : st < 1000) :
  AC Tryz.prog 102 [.ptr 4 [], .u32 n, .slice 8 [] o k cap3, .fn f [] []] 9 (pC c p tag k1 k2 most N cap N2 cap2 ls st S ++ [(8, some ⟨.row .cell, .u8s B, false⟩)])
   ⟨.tup [aA (n + 1) (F (gV p ((B.drop o).take k))), .i64 0], (fB 3 ls).map (fun p => (p.1, none)) ++ [(0, some (.node [.i64 most, .slice 9 [] 0 (512 * q + 512 * p) none, .slice 2 [] 0 N2 cap2, .slice 10 [] 0 (ls.length + p) none, .i64 (st + 1), .bool false, .nilptr])), (1, none)], [(.row .cell, .u8s (aY S (gV p ((B.drop o).take k)) (512 * q))), (.row tLo, b6 (ls ++ loP (aY S (gV p ((B.drop o).take k)) (512 * q)) q p))]⟩ := by
 have hsz := cF 0 0 c p tag (by decide) (by decide) hp2
 have hpl := cB c p n q hqn hc hc2 hp1 hp2 hn
 have hql : q ≤ 200000 := by have := Nat.mul_le_mul hn hp2; omega
 clear hqn
 have hpd := mI B o k p cap3 hB hk hp2
 have hPl : (gV p ((B.drop o).take k)).length = 512 * p := i8 (by rw [List.length_take]; omega)
 generalize gV p ((B.drop o).take k) = Q at hpd hPl ⊢
 have hw := oK most N cap N2 cap2 ls hls st q 0 p hp1 hp2 none S Q hS hq (by omega) hN hm hq2 hfu hl hst
 rw [List.drop_zero, List.take_of_length_le (by omega)] at hw
 have hsum := hf Q hPl
 have hFl := hF Q
 generalize F Q = sum at hsum hFl ⊢
 generalize aY S Q (512 * q) = S' at hw ⊢
 refine acA tab mix Tryz.func102 {} ?_
 cases ls
 all_goals
  refine gob ?_
  refine brN ?_ (decide_eq_false (show ¬ 65535 < n.toNat by omega))
  refine gob ?_
  refine aB hsz [4, 0, 5] ?_
  refine aB hpd [8] ?_
  refine aB hpl [] ?_
  refine aB hw [0, 1, 2, 3, 10] ?_
  refine aB hsum [10] ?_
  refine aF [0, 1, 2, 3, 4, 5, 6, 7, 8, 11, 12]
end
section
variable (c p : Nat) (hp1 : 1 ≤ p) (hp2 : p ≤ 2) (tag : B8) (k1 k2 : List B8) (most N : Nat) (cap : Option Nat) (N2 : Nat) (cap2 : Option Nat) (ls : List Lo) (st : Nat) (S : B8) (n : BitVec 32) (q : Nat) (m : BitVec 32) (B : B8) (hBl : B.length = 512 * p) (hqn : q = 8 + n.toNat * p) (hc : 1 ≤ c) (hc2 : c ≤ 64) (ht : tag.length = 32) (hls : ∀ x ∈ ls, x.bytes.length = 512) (hS : S.length = N) (hn : n.toNat ≤ 65535)
include c p hp1 hp2 tag k1 k2 most N cap N2 cap2 ls st S n q m B hBl hqn hc hc2 ht hls hS hn
theorem wH (hq : 512 * q + 512 * p ≤ N) (hN : N ≤ most) (hm : most ≤ 16777216) (hl : ls.length < 1000) (hst : st < 1000) :
  AC Tryz.prog 102 [.ptr 4 [], .u32 n, .slice 8 [] 0 (512 * p) none, .fn 96 [] [.ptr 9 [], .ptr 10 []]] 11 (pC c p tag k1 k2 most N cap N2 cap2 ls st S ++ [(8, some ⟨.row .cell, .u8s B, false⟩), (9, some ⟨.cell, .ptr 4 [], true⟩), (10, some ⟨.cell, .u32 m, true⟩)])
   ⟨.tup [aA (n + 1) (bG tag m B), .i64 0], (fB 3 ls).map (fun p => (p.1, none)) ++ [(0, some (dvD most N cap N2 cap2 (.slice 11 [] 0 (ls.length + p) none) (st + 1))), (1, some (.u8s (aY S B (512 * q))))], [(.row tLo, b6 (ls ++ loP (aY S B (512 * q)) q p))]⟩ := by
 have hsz := cF 0 0 c p tag (by decide) (by decide) hp2
 have hpl := cB c p n q hqn hc hc2 hp1 hp2 hn
 have hql : q ≤ 200000 := by have := Nat.mul_le_mul hn hp2; omega
 clear hqn
 have hpd := mI B 0 (512 * p) p none (by omega) (Nat.le_refl _) hp2
 have hPl : B.length = 512 * p := hBl
 rw [show gV p ((B.drop 0).take (512 * p)) = B by rw [List.drop_zero, List.take_of_length_le (by omega), gV, hBl, Nat.sub_self, List.replicate_zero, List.append_nil]] at hpd
 skip
 have hw := oL most N cap N2 cap2 ls hls st q 0 p hp1 hp2 none S B hS hq (by omega) hN hm hl hst
 rw [List.drop_zero, List.take_of_length_le (by omega)] at hw
 have hsum := kB c p tag B m 0 (512 * p) none ht (by omega) (by omega) (by omega)
 rw [List.drop_zero, List.take_of_length_le (by omega)] at hsum
 have hFl := aI tag m B
 generalize bG tag m B = sum at hsum hFl ⊢
 generalize aY S B (512 * q) = S' at hw ⊢
 refine acA tab mix Tryz.func102 {} ?_
 cases ls
 all_goals
  refine gob ?_
  refine brN ?_ (decide_eq_false (show ¬ 65535 < n.toNat by omega))
  refine gob ?_
  refine aB hsz [4, 0, 5] ?_
  refine aB hpd [8] ?_
  refine aB hpl [] ?_
  refine aB hw [0, 1, 2, 3, 12] ?_
  refine aB hsum [12, 9, 10, 4, 0, 5] ?_
  refine aF [0, 1, 2, 3, 4, 5, 6, 7, 8, 9, 10, 13]
theorem wG (hq : N < 512 * q + 512 * p) (hq2 : 512 * q ≤ N) (hfu : 512 * q + 512 * p ≤ most) (hN : N ≤ most) (hm : most ≤ 16777216) (hl : ls.length < 1000) (hst : st < 1000) :
  AC Tryz.prog 102 [.ptr 4 [], .u32 n, .slice 8 [] 0 (512 * p) none, .fn 96 [] [.ptr 9 [], .ptr 10 []]] 11 (pC c p tag k1 k2 most N cap N2 cap2 ls st S ++ [(8, some ⟨.row .cell, .u8s B, false⟩), (9, some ⟨.cell, .ptr 4 [], true⟩), (10, some ⟨.cell, .u32 m, true⟩)])
   ⟨.tup [aA (n + 1) (bG tag m B), .i64 0], (fB 3 ls).map (fun p => (p.1, none)) ++ [(0, some (.node [.i64 most, .slice 11 [] 0 (512 * q + 512 * p) none, .slice 2 [] 0 N2 cap2, .slice 12 [] 0 (ls.length + p) none, .i64 (st + 1), .bool false, .nilptr])), (1, none)], [(.row .cell, .u8s (aY S B (512 * q))), (.row tLo, b6 (ls ++ loP (aY S B (512 * q)) q p))]⟩ := by
 have hsz := cF 0 0 c p tag (by decide) (by decide) hp2
 have hpl := cB c p n q hqn hc hc2 hp1 hp2 hn
 have hql : q ≤ 200000 := by have := Nat.mul_le_mul hn hp2; omega
 clear hqn
 have hpd := mI B 0 (512 * p) p none (by omega) (Nat.le_refl _) hp2
 have hPl : B.length = 512 * p := hBl
 rw [show gV p ((B.drop 0).take (512 * p)) = B by rw [List.drop_zero, List.take_of_length_le (by omega), gV, hBl, Nat.sub_self, List.replicate_zero, List.append_nil]] at hpd
 skip
 have hw := oK most N cap N2 cap2 ls hls st q 0 p hp1 hp2 none S B hS hq (by omega) hN hm hq2 hfu hl hst
 rw [List.drop_zero, List.take_of_length_le (by omega)] at hw
 have hsum := kB c p tag B m 0 (512 * p) none ht (by omega) (by omega) (by omega)
 rw [List.drop_zero, List.take_of_length_le (by omega)] at hsum
 have hFl := aI tag m B
 generalize bG tag m B = sum at hsum hFl ⊢
 generalize aY S B (512 * q) = S' at hw ⊢
 refine acA tab mix Tryz.func102 {} ?_
 cases ls
 all_goals
  refine gob ?_
  refine brN ?_ (decide_eq_false (show ¬ 65535 < n.toNat by omega))
  refine gob ?_
  refine aB hsz [4, 0, 5] ?_
  refine aB hpd [8] ?_
  refine aB hpl [] ?_
  refine aB hw [0, 1, 2, 3, 12] ?_
  refine aB hsum [12, 9, 10, 4, 0, 5] ?_
  refine aF [0, 1, 2, 3, 4, 5, 6, 7, 8, 9, 10, 13, 14]
end
def cA (k1 k2 : List B8) (bs : B8) (o q p : Nat) : B8 := ovI (aDC k1) k2 bs o (BitVec.ofNat 64 q) p
def aA6 (k1 k2 : List B8) (bs : B8) (q p : Nat) : B8 := ovI (aAw k1) k2 bs 0 (BitVec.ofNat 64 q) p
theorem aS {k1 : List B8} (k2 : List B8) {bs : B8} {o q p : Nat} (h : o + 512 * p ≤ bs.length) : (cA k1 k2 bs o q p).length = 512 * p := wW k1 k2 bs o p _ h
theorem t7 {k1 : List B8} (k2 : List B8) {bs : B8} {q p : Nat} (h : 512 * p ≤ bs.length) : (aA6 k1 k2 bs q p).length = 512 * p := w9 k1 k2 bs 0 p _ (by omega)
theorem nY (p : Nat) (hp1 : 1 ≤ p) (hp2 : p ≤ 2) (bs : B8) (h : bs.length = 512 * p) : AC Tryz.prog 67 [.slice 0 [] 0 (512 * p) none] 1 [(0, some ⟨.row .cell, .u8s bs, false⟩), gR] ⟨.u8s (bH bs), [], []⟩ := by
 have := aFf bs 0 (512 * p) none (by omega) (by omega) (by omega)
 rw [List.drop_zero, List.take_of_length_le (by omega)] at this
 exact this
section
variable (c p : Nat) (hp1 : 1 ≤ p) (hp2 : p ≤ 2) (tag : B8) (k1 k2 : List B8) (most N : Nat) (cap : Option Nat) (N2 : Nat) (cap2 : Option Nat) (ls : List Lo) (st : Nat) (S : B8) (n : BitVec 32) (q : Nat)
include c p hp1 hp2 tag k1 k2 most N cap N2 cap2 ls st S n q
section
variable (a0 a1 a2 a3 a4 a5 a6 a7 : BitVec 32) (s0 s1 s2 s3 s4 s5 s6 s7 : B8) (g0 : s0.length = 32) (g1 : s1.length = 32) (g2 : s2.length = 32) (g3 : s3.length = 32) (g4 : s4.length = 32) (g5 : s5.length = 32) (g6 : s6.length = 32) (g7 : s7.length = 32) (hqn : q = 8 + n.toNat * p) (hc : 1 ≤ c) (hc2 : c ≤ 64) (ht : tag.length = 32) (hls : ∀ x ∈ ls, x.bytes.length = 512) (hS : S.length = N) (hn : n.toNat ≤ 65535)
include a0 a1 a2 a3 a4 a5 a6 a7 s0 s1 s2 s3 s4 s5 s6 s7 g0 g1 g2 g3 g4 g5 g6 g7 hqn hc hc2 ht hls hS hn
set_option maxHeartbeats 1000000 in
theorem o9 (hq : 512 * q + 512 * p ≤ N) (hN : N ≤ most) (hm : most ≤ 16777216) (hl : ls.length < 1000) (hst : st < 1000) :
  AC Tryz.prog 66 [.ptr 4 [], .u32 n, zJ a0 a1 a2 a3 a4 a5 a6 a7 s0 s1 s2 s3 s4 s5 s6 s7] 8 (pC c p tag k1 k2 most N cap N2 cap2 ls st S)
   ⟨.tup [aA (n + 1) (bH (gV p (dK a0 a1 a2 a3 a4 a5 a6 a7 s0 s1 s2 s3 s4 s5 s6 s7))), .i64 0], (fB 3 ls).map (fun p => (p.1, none)) ++ [(0, some (dvD most N cap N2 cap2 (.slice 8 [] 0 (ls.length + p) none) (st + 1))), (1, some (.u8s (aY S (gV p (dK a0 a1 a2 a3 a4 a5 a6 a7 s0 s1 s2 s3 s4 s5 s6 s7)) (512 * q))))], [(.row tLo, b6 (ls ++ loP (aY S (gV p (dK a0 a1 a2 a3 a4 a5 a6 a7 s0 s1 s2 s3 s4 s5 s6 s7)) (512 * q)) q p))]⟩ := by
 have hpt := xC a0 a1 a2 a3 a4 a5 a6 a7 s0 s1 s2 s3 s4 s5 s6 s7 g0 g1 g2 g3 g4 g5 g6 g7
 have hB := eG (a0 := a0) (a1 := a1) (a2 := a2) (a3 := a3) (a4 := a4) (a5 := a5) (a6 := a6) (a7 := a7) g0 g1 g2 g3 g4 g5 g6 g7
 generalize dK a0 a1 a2 a3 a4 a5 a6 a7 s0 s1 s2 s3 s4 s5 s6 s7 = B at hpt hB ⊢
 have hp := wK c p hp1 hp2 67 bH aH (nY p hp1 hp2) tag k1 k2 most N cap N2 cap2 ls st S n q B 0 288 none (by omega) (by omega) hqn hc hc2 ht hls hS hn hq hN hm hl hst
 rw [List.drop_zero, List.take_of_length_le (by omega)] at hp
 have hy := aH (gV p B)
 generalize gV p B = Q at hp hy ⊢
 generalize bH Q = y at hp hy ⊢
 generalize aY S Q (512 * q) = S' at hp ⊢
 clear hqn
 refine acA tab mix Tryz.func66 {} ?_
 cases ls
 all_goals
  refine gob ?_
  refine aB hpt [] ?_
  refine aB hp [0, 1, 2, 3, 4, 5, 6, 7, 10] ?_
  refine aF [0, 1, 2, 3, 4, 5, 6, 7, 11]
set_option maxHeartbeats 1000000 in
theorem o8 (hq : N < 512 * q + 512 * p) (hq2 : 512 * q ≤ N) (hfu : 512 * q + 512 * p ≤ most) (hN : N ≤ most) (hm : most ≤ 16777216) (hl : ls.length < 1000) (hst : st < 1000) :
  AC Tryz.prog 66 [.ptr 4 [], .u32 n, zJ a0 a1 a2 a3 a4 a5 a6 a7 s0 s1 s2 s3 s4 s5 s6 s7] 8 (pC c p tag k1 k2 most N cap N2 cap2 ls st S)
   ⟨.tup [aA (n + 1) (bH (gV p (dK a0 a1 a2 a3 a4 a5 a6 a7 s0 s1 s2 s3 s4 s5 s6 s7))), .i64 0], (fB 3 ls).map (fun p => (p.1, none)) ++ [(0, some (.node [.i64 most, .slice 8 [] 0 (512 * q + 512 * p) none, .slice 2 [] 0 N2 cap2, .slice 9 [] 0 (ls.length + p) none, .i64 (st + 1), .bool false, .nilptr])), (1, none)], [(.row .cell, .u8s (aY S (gV p (dK a0 a1 a2 a3 a4 a5 a6 a7 s0 s1 s2 s3 s4 s5 s6 s7)) (512 * q))), (.row tLo, b6 (ls ++ loP (aY S (gV p (dK a0 a1 a2 a3 a4 a5 a6 a7 s0 s1 s2 s3 s4 s5 s6 s7)) (512 * q)) q p))]⟩ := by
 have hpt := xC a0 a1 a2 a3 a4 a5 a6 a7 s0 s1 s2 s3 s4 s5 s6 s7 g0 g1 g2 g3 g4 g5 g6 g7
 have hB := eG (a0 := a0) (a1 := a1) (a2 := a2) (a3 := a3) (a4 := a4) (a5 := a5) (a6 := a6) (a7 := a7) g0 g1 g2 g3 g4 g5 g6 g7
 generalize dK a0 a1 a2 a3 a4 a5 a6 a7 s0 s1 s2 s3 s4 s5 s6 s7 = B at hpt hB ⊢
 have hp := wJ c p hp1 hp2 67 bH aH (nY p hp1 hp2) tag k1 k2 most N cap N2 cap2 ls st S n q B 0 288 none (by omega) (by omega) hqn hc hc2 ht hls hS hn hq hq2 hfu hN hm hl hst
 rw [List.drop_zero, List.take_of_length_le (by omega)] at hp
 have hy := aH (gV p B)
 generalize gV p B = Q at hp hy ⊢
 generalize bH Q = y at hp hy ⊢
 generalize aY S Q (512 * q) = S' at hp ⊢
 clear hqn
 refine acA tab mix Tryz.func66 {} ?_
 cases ls
 all_goals
  refine gob ?_
  refine aB hpt [] ?_
  refine aB hp [0, 1, 2, 3, 4, 5, 6, 7, 10] ?_
  refine aF [0, 1, 2, 3, 4, 5, 6, 7, 11, 12]
end
section
variable (B : B8) (o : Nat) (cap3 : Option Nat) (hB : o + 512 * p ≤ B.length) (hB2 : B.length < 9223372036854775808) (h1 : Rows 15 16 k1) (h2 : Rows 15 16 k2) (hqn : q = 8 + n.toNat * p) (hc : 1 ≤ c) (hc2 : c ≤ 64) (ht : tag.length = 32) (hls : ∀ x ∈ ls, x.bytes.length = 512) (hS : S.length = N) (hn : n.toNat ≤ 65535)
include B o cap3 hB hB2 h1 h2 hqn hc hc2 ht hls hS hn
set_option maxHeartbeats 1000000 in
theorem pB (hq : 512 * q + 512 * p ≤ N) (hN : N ≤ most) (hm : most ≤ 16777216) (hl : ls.length < 1000) (hst : st < 1000) :
  AC Tryz.prog 100 [.ptr 4 [], .u32 n, .slice 8 [] o (512 * p) cap3] 9 (pC c p tag k1 k2 most N cap N2 cap2 ls st S ++ [(8, some ⟨.row .cell, .u8s B, false⟩)])
   ⟨.tup [aA (n + 1) (bG tag (n + 1) (cA k1 k2 B o q p)), .i64 0], (fB 3 ls).map (fun p => (p.1, none)) ++ [(0, some (dvD most N cap N2 cap2 (.slice 9 [] 0 (ls.length + p) none) (st + 1))), (1, some (.u8s (aY S (cA k1 k2 B o q p) (512 * q))))], [(.row tLo, b6 (ls ++ loP (aY S (cA k1 k2 B o q p) (512 * q)) q p))]⟩ := by
 have hsz := cF 0 0 c p tag (by decide) (by decide) hp2
 have hse := kU c p tag n q hqn hc hc2 hp1 hp2 hn
 have hsl := aBc (.row .cell) (.inl rfl) k1 k2 h1 h2 B o p cap3 (BitVec.ofNat 64 q) hB (by omega) hB2
 have hQl := aS (k1 := k1) k2 (q := q) hB
 rw [show ovI (aDC k1) k2 B o (BitVec.ofNat 64 q) p = cA k1 k2 B o q p from rfl] at hsl
 generalize cA k1 k2 B o q p = Q at hsl hQl ⊢
 have hlf := lC (n + 1)
 have hp := wH c p hp1 hp2 tag k1 k2 most N cap N2 cap2 ls st S n q (n + 1) Q hQl hqn hc hc2 ht hls hS hn hq hN hm hl hst
 have hy := aI tag (n + 1) Q
 generalize bG tag (n + 1) Q = y at hp hy ⊢
 generalize aY S Q (512 * q) = S' at hp ⊢
 clear hqn
 refine acA tab mix Tryz.func100 {} ?_
 cases ls
 all_goals
  refine gob ?_
  refine brN ?_ (decide_eq_false (show ¬ 65535 < n.toNat by omega))
  refine gob ?_
  refine aB hsz [4, 0, 5] ?_
  refine Br.no (show (!decide (((512 * p : Nat) : Int) = ((512 * p : Nat) : Int))) = false by rw [decide_eq_true rfl]; rfl) ?_
  refine gob ?_
  refine aB hse [4, 0, 5] ?_
  refine aB hsl [5, 6, 7, 8] ?_
  refine aB hlf [4] ?_
  refine aB hp [0, 1, 2, 3, 4, 5, 6, 7, 10, 11, 12] ?_
  refine aF [0, 1, 2, 3, 4, 5, 6, 7, 8, 13]
set_option maxHeartbeats 1000000 in
theorem pA (hq : N < 512 * q + 512 * p) (hq2 : 512 * q ≤ N) (hfu : 512 * q + 512 * p ≤ most) (hN : N ≤ most) (hm : most ≤ 16777216) (hl : ls.length < 1000) (hst : st < 1000) :
  AC Tryz.prog 100 [.ptr 4 [], .u32 n, .slice 8 [] o (512 * p) cap3] 9 (pC c p tag k1 k2 most N cap N2 cap2 ls st S ++ [(8, some ⟨.row .cell, .u8s B, false⟩)])
   ⟨.tup [aA (n + 1) (bG tag (n + 1) (cA k1 k2 B o q p)), .i64 0], (fB 3 ls).map (fun p => (p.1, none)) ++ [(0, some (.node [.i64 most, .slice 9 [] 0 (512 * q + 512 * p) none, .slice 2 [] 0 N2 cap2, .slice 10 [] 0 (ls.length + p) none, .i64 (st + 1), .bool false, .nilptr])), (1, none)], [(.row .cell, .u8s (aY S (cA k1 k2 B o q p) (512 * q))), (.row tLo, b6 (ls ++ loP (aY S (cA k1 k2 B o q p) (512 * q)) q p))]⟩ := by
 have hsz := cF 0 0 c p tag (by decide) (by decide) hp2
 have hse := kU c p tag n q hqn hc hc2 hp1 hp2 hn
 have hsl := aBc (.row .cell) (.inl rfl) k1 k2 h1 h2 B o p cap3 (BitVec.ofNat 64 q) hB (by omega) hB2
 have hQl := aS (k1 := k1) k2 (q := q) hB
 rw [show ovI (aDC k1) k2 B o (BitVec.ofNat 64 q) p = cA k1 k2 B o q p from rfl] at hsl
 generalize cA k1 k2 B o q p = Q at hsl hQl ⊢
 have hlf := lC (n + 1)
 have hp := wG c p hp1 hp2 tag k1 k2 most N cap N2 cap2 ls st S n q (n + 1) Q hQl hqn hc hc2 ht hls hS hn hq hq2 hfu hN hm hl hst
 have hy := aI tag (n + 1) Q
 generalize bG tag (n + 1) Q = y at hp hy ⊢
 generalize aY S Q (512 * q) = S' at hp ⊢
 clear hqn
 refine acA tab mix Tryz.func100 {} ?_
 cases ls
 all_goals
  refine gob ?_
  refine brN ?_ (decide_eq_false (show ¬ 65535 < n.toNat by omega))
  refine gob ?_
  refine aB hsz [4, 0, 5] ?_
  refine Br.no (show (!decide (((512 * p : Nat) : Int) = ((512 * p : Nat) : Int))) = false by rw [decide_eq_true rfl]; rfl) ?_
  refine gob ?_
  refine aB hse [4, 0, 5] ?_
  refine aB hsl [5, 6, 7, 8] ?_
  refine aB hlf [4] ?_
  refine aB hp [0, 1, 2, 3, 4, 5, 6, 7, 10, 11, 12] ?_
  refine aF [0, 1, 2, 3, 4, 5, 6, 7, 8, 13, 14]
end
end
def eP (S : B8) (q p : Nat) : B8 := (S.drop (512 * q)).take (512 * p)
def qE (Q : B8) (p : Nat) : D × Int := bif aBH Q || !cW Q 288 (512 * p - 288) then (uC, 40) else (aAg Q, 0)
section
variable (c p : Nat) (hp1 : 1 ≤ p) (hp2 : p ≤ 2) (f : Nat) (F : B8 → B8) (hF : ∀ b, (F b).length = 32) (hf : ∀ (bs : B8), bs.length = 512 * p → AC Tryz.prog f [.slice 0 [] 0 (512 * p) none] 1 [(0, some ⟨.row .cell, .u8s bs, false⟩), gR] ⟨.u8s (F bs), [], []⟩) (tag : B8) (k1 k2 : List B8) (most N : Nat) (cap : Option Nat) (N2 : Nat) (cap2 : Option Nat) (ls : List Lo) (st : Nat) (S : B8) (a : BitVec 32) (r : B8) (q : Nat) (hqn : q = 8 + (a - 1).toNat * p) (hc : 1 ≤ c) (hc2 : c ≤ 64) (ht : tag.length = 32) (hr : r.length = 32) (hS : S.length = N) (ha0 : 1 ≤ a.toNat) (ha : a.toNat ≤ 65536) (hN : N < 70368744177664)
include c p hp1 hp2 f F hF hf tag k1 k2 most N cap N2 cap2 ls st S a r q hqn hc hc2 ht hr hS ha0 ha hN
theorem aAq (hq : 512 * q + 512 * p ≤ N) (he : F (eP S q p) = r) :
  AC Tryz.prog 60 [.ptr 4 [], aA a r, .fn f [] []] 8 (pC c p tag k1 k2 most N cap N2 cap2 ls st S)
   ⟨.tup [.slice 8 [] 0 (512 * p) none, .i64 0], [], [(.row .cell, .u8s (eP S q p))]⟩ := by
 have hs1 := dP ha0
 have hsz := cF 0 0 c p tag (by decide) (by decide) hp2
 have hpl := cB c p (a - 1) q hqn hc hc2 hp1 hp2 (by omega)
 have hql : q ≤ 200000 := by have := Nat.mul_le_mul (show (a - 1).toNat ≤ 65535 by omega) hp2; omega
 clear hqn
 have hrd := mS most N cap N2 cap2 ls st (512 * q) (512 * p) S hS hq hN
 rw [show (S.drop (512 * q)).take (512 * p) = eP S q p from rfl] at hrd
 have hQl : (eP S q p).length = 512 * p := by rw [eP, List.length_take, List.length_drop]; omega
 generalize eP S q p = Q at hrd hQl he ⊢
 have hsum := hf Q hQl
 have heq := mQ (F Q) r 32 (some 32) (some 32) (hF Q) hr (by decide)
 rw [decide_eq_true he] at heq
 have hFl := hF Q
 generalize F Q = sum at hsum hFl heq he
 have q0 : decide (a = BitVec.ofNat 32 (Int.toNat 0)) = false := decide_eq_false (fun e => by rw [e] at ha0; exact absurd ha0 (by decide))
 refine acA tab mix Tryz.func60 {} ?_
 cases ls
 all_goals
  refine gob ?_
  rw [q0]
  refine gob ?_
  refine brN ?_ (decide_eq_false (show ¬ 65536 < a.toNat by omega))
  refine gob ?_
  refine aB hpl [] ?_
  refine aB hsz [4, 0, 5] ?_
  refine aB hrd [0, 1, 2, 3] ?_
  refine aB hsum [9] ?_
  refine aB ((heq.arr 0 32).arrAt 1 32 [.fld 1] lK (aA a r)) [10, 8] ?_
  refine aF [0, 1, 2, 3, 4, 5, 6, 7, 9]
theorem aAp (hq : 512 * q + 512 * p ≤ N) (he : ¬ F (eP S q p) = r) :
  AC Tryz.prog 60 [.ptr 4 [], aA a r, .fn f [] []] 8 (pC c p tag k1 k2 most N cap N2 cap2 ls st S)
   ⟨.tup [.nilslice, .i64 40], [], []⟩ := by
 have hs1 := dP ha0
 have hsz := cF 0 0 c p tag (by decide) (by decide) hp2
 have hpl := cB c p (a - 1) q hqn hc hc2 hp1 hp2 (by omega)
 have hql : q ≤ 200000 := by have := Nat.mul_le_mul (show (a - 1).toNat ≤ 65535 by omega) hp2; omega
 clear hqn
 have hrd := mS most N cap N2 cap2 ls st (512 * q) (512 * p) S hS hq hN
 rw [show (S.drop (512 * q)).take (512 * p) = eP S q p from rfl] at hrd
 have hQl : (eP S q p).length = 512 * p := by rw [eP, List.length_take, List.length_drop]; omega
 generalize eP S q p = Q at hrd hQl he
 have hsum := hf Q hQl
 have heq := mQ (F Q) r 32 (some 32) (some 32) (hF Q) hr (by decide)
 rw [decide_eq_false he] at heq
 have hFl := hF Q
 generalize F Q = sum at hsum hFl heq he
 have q0 : decide (a = BitVec.ofNat 32 (Int.toNat 0)) = false := decide_eq_false (fun e => by rw [e] at ha0; exact absurd ha0 (by decide))
 refine acA tab mix Tryz.func60 {} ?_
 cases ls
 all_goals
  refine gob ?_
  rw [q0]
  refine gob ?_
  refine brN ?_ (decide_eq_false (show ¬ 65536 < a.toNat by omega))
  refine gob ?_
  refine aB hpl [] ?_
  refine aB hsz [4, 0, 5] ?_
  refine aB hrd [0, 1, 2, 3] ?_
  refine aB hsum [9] ?_
  refine aB ((heq.arr 0 32).arrAt 1 32 [.fld 1] lK (aA a r)) [10, 8] ?_
  refine aF [0, 1, 2, 3, 4, 5, 6, 7]
theorem aAo (hq : N < 512 * q + 512 * p) :
  AC Tryz.prog 60 [.ptr 4 [], aA a r, .fn f [] []] 8 (pC c p tag k1 k2 most N cap N2 cap2 ls st S)
   ⟨.tup [.nilslice, .i64 40], [], []⟩ := by
 have hs1 := dP ha0
 have hsz := cF 0 0 c p tag (by decide) (by decide) hp2
 have hpl := cB c p (a - 1) q hqn hc hc2 hp1 hp2 (by omega)
 have hql : q ≤ 200000 := by have := Nat.mul_le_mul (show (a - 1).toNat ≤ 65535 by omega) hp2; omega
 clear hqn
 have hrd := vB most N cap N2 cap2 ls st (512 * q) (512 * p) hq hN (by omega) (by omega)
 have htd := tB
 have q0 : decide (a = BitVec.ofNat 32 (Int.toNat 0)) = false := decide_eq_false (fun e => by rw [e] at ha0; exact absurd ha0 (by decide))
 refine acA tab mix Tryz.func60 {} ?_
 cases ls
 all_goals
  refine gob ?_
  rw [q0]
  refine gob ?_
  refine brN ?_ (decide_eq_false (show ¬ 65536 < a.toNat by omega))
  refine gob ?_
  refine aB hpl [] ?_
  refine aB hsz [4, 0, 5] ?_
  refine aB hrd [0, 1, 2, 3] ?_
  refine aB htd [] ?_
  refine aF [0, 1, 2, 3, 4, 5, 6, 7]
end
theorem aAr (f : Nat) (a : BitVec 32) (r : B8) (hr : r.length = 32) (h : a.toNat = 0 ∨ 65536 < a.toNat) :
  AC Tryz.prog 60 [.ptr 0 [], aA a r, .fn f [] []] 1 [] ⟨.tup [.nilslice, .i64 2], [], []⟩ := by
 by_cases h0 : a.toNat = 0
 ·have q0 : decide (a = BitVec.ofNat 32 (Int.toNat 0)) = true := decide_eq_true (BitVec.eq_of_toNat_eq h0)
  refine acA tab mix Tryz.func60 {} ?_
  refine gob ?_
  rw [q0]
  refine gob ?_
  refine aF [0]
 ·have q0 : decide (a = BitVec.ofNat 32 (Int.toNat 0)) = false := decide_eq_false (fun e => h0 (by rw [e]; rfl))
  refine acA tab mix Tryz.func60 {} ?_
  refine gob ?_
  rw [q0]
  refine gob ?_
  refine brY ?_ (h := decide_eq_true (show 65536 < a.toNat by omega))
  refine gob ?_
  refine aF [0]
section
variable (c p : Nat) (hp1 : 1 ≤ p) (hp2 : p ≤ 2) (m : BitVec 32) (tag : B8) (k1 k2 : List B8) (most N : Nat) (cap : Option Nat) (N2 : Nat) (cap2 : Option Nat) (ls : List Lo) (st : Nat) (S : B8) (a : BitVec 32) (r : B8) (q : Nat) (hqn : q = 8 + (a - 1).toNat * p) (hc : 1 ≤ c) (hc2 : c ≤ 64) (ht : tag.length = 32) (hr : r.length = 32) (hS : S.length = N) (ha0 : 1 ≤ a.toNat) (ha : a.toNat ≤ 65536) (hN : N < 70368744177664)
include c p hp1 hp2 m tag k1 k2 most N cap N2 cap2 ls st S a r q hqn hc hc2 ht hr hS ha0 ha hN
theorem aAm (hq : 512 * q + 512 * p ≤ N) (he : bG tag m (eP S q p) = r) :
  AC Tryz.prog 60 [.ptr 4 [], aA a r, .fn 96 [] [.ptr 8 [], .ptr 9 []]] 10 (pC c p tag k1 k2 most N cap N2 cap2 ls st S ++ [(8, some ⟨.cell, .ptr 4 [], true⟩), (9, some ⟨.cell, .u32 m, true⟩)])
   ⟨.tup [.slice 10 [] 0 (512 * p) none, .i64 0], [], [(.row .cell, .u8s (eP S q p))]⟩ := by
 have hs1 := dP ha0
 have hsz := cF 0 0 c p tag (by decide) (by decide) hp2
 have hpl := cB c p (a - 1) q hqn hc hc2 hp1 hp2 (by omega)
 have hql : q ≤ 200000 := by have := Nat.mul_le_mul (show (a - 1).toNat ≤ 65535 by omega) hp2; omega
 clear hqn
 have hrd := mS most N cap N2 cap2 ls st (512 * q) (512 * p) S hS hq hN
 rw [show (S.drop (512 * q)).take (512 * p) = eP S q p from rfl] at hrd
 have hQl : (eP S q p).length = 512 * p := by rw [eP, List.length_take, List.length_drop]; omega
 generalize eP S q p = Q at hrd hQl he ⊢
 have hsum := kB c p tag Q m 0 (512 * p) none ht (by omega) (by omega) (by omega)
 rw [List.drop_zero, List.take_of_length_le (by omega)] at hsum
 have heq := mQ (bG tag m Q) r 32 (some 32) (some 32) (aI _ _ _) hr (by decide)
 rw [decide_eq_true he] at heq
 have hFl := aI tag m Q
 generalize bG tag m Q = sum at hsum hFl heq he
 have q0 : decide (a = BitVec.ofNat 32 (Int.toNat 0)) = false := decide_eq_false (fun e => by rw [e] at ha0; exact absurd ha0 (by decide))
 refine acA tab mix Tryz.func60 {} ?_
 cases ls
 all_goals
  refine gob ?_
  rw [q0]
  refine gob ?_
  refine brN ?_ (decide_eq_false (show ¬ 65536 < a.toNat by omega))
  refine gob ?_
  refine aB hpl [] ?_
  refine aB hsz [4, 0, 5] ?_
  refine aB hrd [0, 1, 2, 3] ?_
  refine aB hsum [11, 8, 9, 4, 0, 5] ?_
  refine aB ((heq.arr 0 32).arrAt 1 32 [.fld 1] lK (aA a r)) [12, 10] ?_
  refine aF [0, 1, 2, 3, 4, 5, 6, 7, 8, 9, 11]
theorem aAl (hq : 512 * q + 512 * p ≤ N) (he : ¬ bG tag m (eP S q p) = r) :
  AC Tryz.prog 60 [.ptr 4 [], aA a r, .fn 96 [] [.ptr 8 [], .ptr 9 []]] 10 (pC c p tag k1 k2 most N cap N2 cap2 ls st S ++ [(8, some ⟨.cell, .ptr 4 [], true⟩), (9, some ⟨.cell, .u32 m, true⟩)])
   ⟨.tup [.nilslice, .i64 40], [], []⟩ := by
 have hs1 := dP ha0
 have hsz := cF 0 0 c p tag (by decide) (by decide) hp2
 have hpl := cB c p (a - 1) q hqn hc hc2 hp1 hp2 (by omega)
 have hql : q ≤ 200000 := by have := Nat.mul_le_mul (show (a - 1).toNat ≤ 65535 by omega) hp2; omega
 clear hqn
 have hrd := mS most N cap N2 cap2 ls st (512 * q) (512 * p) S hS hq hN
 rw [show (S.drop (512 * q)).take (512 * p) = eP S q p from rfl] at hrd
 have hQl : (eP S q p).length = 512 * p := by rw [eP, List.length_take, List.length_drop]; omega
 generalize eP S q p = Q at hrd hQl he
 have hsum := kB c p tag Q m 0 (512 * p) none ht (by omega) (by omega) (by omega)
 rw [List.drop_zero, List.take_of_length_le (by omega)] at hsum
 have heq := mQ (bG tag m Q) r 32 (some 32) (some 32) (aI _ _ _) hr (by decide)
 rw [decide_eq_false he] at heq
 have hFl := aI tag m Q
 generalize bG tag m Q = sum at hsum hFl heq he
 have q0 : decide (a = BitVec.ofNat 32 (Int.toNat 0)) = false := decide_eq_false (fun e => by rw [e] at ha0; exact absurd ha0 (by decide))
 refine acA tab mix Tryz.func60 {} ?_
 cases ls
 all_goals
  refine gob ?_
  rw [q0]
  refine gob ?_
  refine brN ?_ (decide_eq_false (show ¬ 65536 < a.toNat by omega))
  refine gob ?_
  refine aB hpl [] ?_
  refine aB hsz [4, 0, 5] ?_
  refine aB hrd [0, 1, 2, 3] ?_
  refine aB hsum [11, 8, 9, 4, 0, 5] ?_
  refine aB ((heq.arr 0 32).arrAt 1 32 [.fld 1] lK (aA a r)) [12, 10] ?_
  refine aF [0, 1, 2, 3, 4, 5, 6, 7, 8, 9]
theorem aAk (hq : N < 512 * q + 512 * p) :
  AC Tryz.prog 60 [.ptr 4 [], aA a r, .fn 96 [] [.ptr 8 [], .ptr 9 []]] 10 (pC c p tag k1 k2 most N cap N2 cap2 ls st S ++ [(8, some ⟨.cell, .ptr 4 [], true⟩), (9, some ⟨.cell, .u32 m, true⟩)])
   ⟨.tup [.nilslice, .i64 40], [], []⟩ := by
 have hs1 := dP ha0
 have hsz := cF 0 0 c p tag (by decide) (by decide) hp2
 have hpl := cB c p (a - 1) q hqn hc hc2 hp1 hp2 (by omega)
 have hql : q ≤ 200000 := by have := Nat.mul_le_mul (show (a - 1).toNat ≤ 65535 by omega) hp2; omega
 clear hqn
 have hrd := vB most N cap N2 cap2 ls st (512 * q) (512 * p) hq hN (by omega) (by omega)
 have htd := tB
 have q0 : decide (a = BitVec.ofNat 32 (Int.toNat 0)) = false := decide_eq_false (fun e => by rw [e] at ha0; exact absurd ha0 (by decide))
 refine acA tab mix Tryz.func60 {} ?_
 cases ls
 all_goals
  refine gob ?_
  rw [q0]
  refine gob ?_
  refine brN ?_ (decide_eq_false (show ¬ 65536 < a.toNat by omega))
  refine gob ?_
  refine aB hpl [] ?_
  refine aB hsz [4, 0, 5] ?_
  refine aB hrd [0, 1, 2, 3] ?_
  refine aB htd [] ?_
  refine aF [0, 1, 2, 3, 4, 5, 6, 7, 8, 9]
end
section
variable (a : BitVec 32) (r : B8) (hr : r.length = 32) (h : a.toNat = 0 ∨ 65536 < a.toNat)
include a r hr h
theorem aAn :
  AC Tryz.prog 60 [.ptr 0 [], aA a r, .fn 96 [] [.ptr 1 [], .ptr 2 []]] 3 [] ⟨.tup [.nilslice, .i64 2], [], []⟩ := by
 by_cases h0 : a.toNat = 0
 ·have q0 : decide (a = BitVec.ofNat 32 (Int.toNat 0)) = true := decide_eq_true (BitVec.eq_of_toNat_eq h0)
  refine acA tab mix Tryz.func60 {} ?_
  refine gob ?_
  rw [q0]
  refine gob ?_
  refine aF [0, 1, 2]
 ·have q0 : decide (a = BitVec.ofNat 32 (Int.toNat 0)) = false := decide_eq_false (fun e => h0 (by rw [e]; rfl))
  refine acA tab mix Tryz.func60 {} ?_
  refine gob ?_
  rw [q0]
  refine gob ?_
  refine brY ?_ (h := decide_eq_true (show 65536 < a.toNat by omega))
  refine gob ?_
  refine aF [0, 1, 2]
theorem aBA :
  AC Tryz.prog 35 [.ptr 0 [], aA a r] 1 [] ⟨.tup [.nilslice, .i64 2], [], []⟩ := by
 have hlf := lC a
 have hg := aAn a r hr h
 clear h
 refine acA tab mix Tryz.func35 {} ?_
 refine gob ?_
 refine aB hlf [0] ?_
 refine aB hg [0, 2, 3] ?_
 refine aF [0]
end
section
variable (c p : Nat) (hp1 : 1 ≤ p) (hp2 : p ≤ 2) (tag : B8) (k1 k2 : List B8) (most N : Nat) (cap : Option Nat) (N2 : Nat) (cap2 : Option Nat) (ls : List Lo) (st : Nat) (S : B8) (a : BitVec 32) (r : B8) (q : Nat)
include c p hp1 hp2 tag k1 k2 most N cap N2 cap2 ls st S a r q
set_option maxHeartbeats 4000000 in
theorem aAz (h1 : Rows 15 16 k1) (h2 : Rows 15 16 k2) (hqn : q = 8 + (a - 1).toNat * p) (hc : 1 ≤ c) (hc2 : c ≤ 64) (ht : tag.length = 32) (hr : r.length = 32) (hS : S.length = N) (ha0 : 1 ≤ a.toNat) (ha : a.toNat ≤ 65536) (hN : N < 70368744177664) (hq : 512 * q + 512 * p ≤ N) (he : bG tag a (eP S q p) = r) :
  AC Tryz.prog 35 [.ptr 4 [], aA a r] 8 (pC c p tag k1 k2 most N cap N2 cap2 ls st S)
   ⟨.tup [.slice 8 [] 0 (512 * p) none, .i64 0], [], [(.row .cell, .u8s (aA6 k1 k2 (eP S q p) q p))]⟩ := by
 have hlf := lC a
 have hg := aAm c p hp1 hp2 a tag k1 k2 most N cap N2 cap2 ls st S a r q hqn hc hc2 ht hr hS ha0 ha hN hq he
 have hs1 := dP ha0
 have hse := kU c p tag (a - 1) q hqn hc hc2 hp1 hp2 (by omega)
 have hQl : (eP S q p).length = 512 * p := by rw [eP, List.length_take, List.length_drop]; omega
 clear he hqn
 generalize eP S q p = Q at hg hQl ⊢
 have hop := aDG (.row .cell) (.inl rfl) k1 k2 h1 h2 Q 0 p none (BitVec.ofNat 64 q) (by omega) (by omega) (by omega)
 rw [show ovI (aAw k1) k2 Q 0 (BitVec.ofNat 64 q) p = aA6 k1 k2 Q q p from rfl] at hop
 generalize aA6 k1 k2 Q q p = X at hop ⊢
 refine acA tab mix Tryz.func35 {} ?_
 cases ls
 all_goals
  refine gob ?_
  refine aB hlf [4] ?_
  refine aB hg [0, 1, 2, 3, 4, 5, 6, 7, 9, 10] ?_
  refine aB hse [4, 0, 5] ?_
  refine aB hop [5, 6, 7, 11] ?_
  refine aF [0, 1, 2, 3, 4, 5, 6, 7, 12]
section
variable (hqn : q = 8 + (a - 1).toNat * p) (hc : 1 ≤ c) (hc2 : c ≤ 64) (ht : tag.length = 32) (hr : r.length = 32) (hS : S.length = N) (ha0 : 1 ≤ a.toNat) (ha : a.toNat ≤ 65536) (hN : N < 70368744177664)
include hqn hc hc2 ht hr hS ha0 ha hN
set_option maxHeartbeats 4000000 in
theorem aAy (hq : 512 * q + 512 * p ≤ N) (he : ¬ bG tag a (eP S q p) = r) :
  AC Tryz.prog 35 [.ptr 4 [], aA a r] 8 (pC c p tag k1 k2 most N cap N2 cap2 ls st S)
   ⟨.tup [.nilslice, .i64 40], [], []⟩ := by
 have hlf := lC a
 have hg := aAl c p hp1 hp2 a tag k1 k2 most N cap N2 cap2 ls st S a r q hqn hc hc2 ht hr hS ha0 ha hN hq he
 clear hqn he
 refine acA tab mix Tryz.func35 {} ?_
 cases ls
 all_goals
  refine gob ?_
  refine aB hlf [4] ?_
  refine aB hg [0, 1, 2, 3, 4, 5, 6, 7, 9, 10] ?_
  refine aF [0, 1, 2, 3, 4, 5, 6, 7]
set_option maxHeartbeats 4000000 in
theorem aAx (hq : N < 512 * q + 512 * p) :
  AC Tryz.prog 35 [.ptr 4 [], aA a r] 8 (pC c p tag k1 k2 most N cap N2 cap2 ls st S)
   ⟨.tup [.nilslice, .i64 40], [], []⟩ := by
 have hlf := lC a
 have hg := aAk c p hp1 hp2 a tag k1 k2 most N cap N2 cap2 ls st S a r q hqn hc hc2 ht hr hS ha0 ha hN hq
 clear hqn
 refine acA tab mix Tryz.func35 {} ?_
 cases ls
 all_goals
  refine gob ?_
  refine aB hlf [4] ?_
  refine aB hg [0, 1, 2, 3, 4, 5, 6, 7, 9, 10] ?_
  refine aF [0, 1, 2, 3, 4, 5, 6, 7]
end
end
theorem aAe (a : BitVec 32) (r : B8) (hr : r.length = 32) (h : a.toNat = 0 ∨ 65536 < a.toNat) :
  AC Tryz.prog 40 [.ptr 0 [], aA a r] 1 [] ⟨.tup [uC, .i64 2], [], []⟩ := by
 have hg := aAr 67 a r hr h
 clear h
 refine acA tab mix Tryz.func40 {} ?_
 refine gob ?_
 refine aB hg [0] ?_
 refine aF [0]
section
variable (c p : Nat) (hp1 : 1 ≤ p) (hp2 : p ≤ 2) (tag : B8) (k1 k2 : List B8) (most N : Nat) (cap : Option Nat) (N2 : Nat) (cap2 : Option Nat) (ls : List Lo) (st : Nat) (S : B8) (a : BitVec 32) (r : B8) (q : Nat) (hqn : q = 8 + (a - 1).toNat * p) (hc : 1 ≤ c) (hc2 : c ≤ 64) (ht : tag.length = 32) (hr : r.length = 32) (hS : S.length = N) (ha0 : 1 ≤ a.toNat) (ha : a.toNat ≤ 65536) (hN : N < 70368744177664)
include c p hp1 hp2 tag k1 k2 most N cap N2 cap2 ls st S a r q hqn hc hc2 ht hr hS ha0 ha hN
set_option maxHeartbeats 4000000 in
theorem aAd (hq : 512 * q + 512 * p ≤ N) (he : bH (eP S q p) = r) :
  AC Tryz.prog 40 [.ptr 4 [], aA a r] 8 (pC c p tag k1 k2 most N cap N2 cap2 ls st S)
   ⟨.tup [(qE (eP S q p) p).1, .i64 (qE (eP S q p) p).2], [], []⟩ := by
 have hg := aAq c p hp1 hp2 67 bH aH (nY p hp1 hp2) tag k1 k2 most N cap N2 cap2 ls st S a r q hqn hc hc2 ht hr hS ha0 ha hN hq he
 have hQl : (eP S q p).length = 512 * p := by rw [eP, List.length_take, List.length_drop]; omega
 clear he hqn
 generalize eP S q p = Q at hg hQl ⊢
 have hp := aDj
 generalize dK 0 0 0 0 0 0 0 0 (zB 32) (zB 32) (zB 32) (zB 32) (zB 32) (zB 32) (zB 32) (zB 32) = Z at hp
 have hn := aFg Q (by omega)
 have hz := aCL Q 288 (512 * p - 288) none (by omega) (by omega)
 unfold qE aEm at *
 have hzl : (((512 * p : Nat) : Int).toNat - 288) = 512 * p - 288 := by omega
 cases hb : aBH Q with
 |true =>
  rw [hb] at hn
  simp only [Bool.true_or, cond_true] at hn ⊢
  refine acA tab mix Tryz.func40 {} ?_
  cases ls
  all_goals
   refine gob ?_
   refine aB hg [0, 1, 2, 3, 4, 5, 6, 7] ?_
   refine aB hp [] ?_
   refine aB hn [10] ?_
   refine EffG.mk (And.intro ?_ ?_)
   ·(repeat' (first | assumption | exact trivial | refine And.intro ?_ ?_)) <;> first | rfl | omega
   refine gob ?_
   refine aF [0, 1, 2, 3, 4, 5, 6, 7]
 |false =>
  rw [hb] at hn
  simp only [Bool.false_or, cond_false] at hn ⊢
  obtain ⟨a0, a1, a2, a3, a4, a5, a6, a7, s0, s1, s2, s3, s4, s5, s6, s7, hG, l0, l1, l2, l3, l4, l5, l6, l7⟩ := aDk (Q := Q) (by omega)
  cases hz0 : cW Q 288 (512 * p - 288) with
  |true =>
   rw [hz0] at hz
   simp only [Bool.not_true, cond_false]
   rw [hG] at hn ⊢
   refine acA tab mix Tryz.func40 {} ?_
   cases ls
   all_goals
    refine gob ?_
    refine aB hg [0, 1, 2, 3, 4, 5, 6, 7] ?_
    refine aB hp [] ?_
    refine aB hn [10] ?_
    refine EffG.mk (And.intro ?_ ?_)
    ·(repeat' (first | assumption | exact trivial | refine And.intro ?_ ?_)) <;> first | rfl | omega
    refine gob ?_
    refine aB hz [10] ?_ (hargs := congrArg (fun l => [D.slice 10 [] 288 l none]) hzl)
    refine EffG.mk (And.intro ?_ ?_)
    ·(repeat' (first | assumption | exact trivial | refine And.intro ?_ ?_)) <;> first | rfl | omega
    refine gob ?_
    refine aF [0, 1, 2, 3, 4, 5, 6, 7]
  |false =>
   rw [hz0] at hz
   simp only [Bool.not_false, cond_true]
   rw [hG] at hn
   refine acA tab mix Tryz.func40 {} ?_
   cases ls
   all_goals
    refine gob ?_
    refine aB hg [0, 1, 2, 3, 4, 5, 6, 7] ?_
    refine aB hp [] ?_
    refine aB hn [10] ?_
    refine EffG.mk (And.intro ?_ ?_)
    ·(repeat' (first | assumption | exact trivial | refine And.intro ?_ ?_)) <;> first | rfl | omega
    refine gob ?_
    refine aB hz [10] ?_ (hargs := congrArg (fun l => [D.slice 10 [] 288 l none]) hzl)
    refine aF [0, 1, 2, 3, 4, 5, 6, 7]
set_option maxHeartbeats 4000000 in
theorem aAc (hq : 512 * q + 512 * p ≤ N) (he : ¬ bH (eP S q p) = r) :
  AC Tryz.prog 40 [.ptr 4 [], aA a r] 8 (pC c p tag k1 k2 most N cap N2 cap2 ls st S)
   ⟨.tup [uC, .i64 40], [], []⟩ := by
 have hg := aAp c p hp1 hp2 67 bH aH (nY p hp1 hp2) tag k1 k2 most N cap N2 cap2 ls st S a r q hqn hc hc2 ht hr hS ha0 ha hN hq he
 clear hqn he
 refine acA tab mix Tryz.func40 {} ?_
 cases ls
 all_goals
  refine gob ?_
  refine aB hg [0, 1, 2, 3, 4, 5, 6, 7] ?_
  refine aF [0, 1, 2, 3, 4, 5, 6, 7]
set_option maxHeartbeats 4000000 in
theorem aAb (hq : N < 512 * q + 512 * p) :
  AC Tryz.prog 40 [.ptr 4 [], aA a r] 8 (pC c p tag k1 k2 most N cap N2 cap2 ls st S)
   ⟨.tup [uC, .i64 40], [], []⟩ := by
 have hg := aAo c p hp1 hp2 67 bH aH (nY p hp1 hp2) tag k1 k2 most N cap N2 cap2 ls st S a r q hqn hc hc2 ht hr hS ha0 ha hN hq
 clear hqn
 refine acA tab mix Tryz.func40 {} ?_
 cases ls
 all_goals
  refine gob ?_
  refine aB hg [0, 1, 2, 3, 4, 5, 6, 7] ?_
  refine aF [0, 1, 2, 3, 4, 5, 6, 7]
end
abbrev tsM (tag : B8) (k1 k2 : List B8) (most : Nat) (ls : List Lo) (st : Nat) (S : B8) : Mem := pC 64 1 tag k1 k2 most S.length none 4096 none ls st S
abbrev dvN (most N b n st : Nat) : D := .node [.i64 most, .slice b [] 0 N none, .slice 2 [] 0 4096 none, .slice (b + 1) [] 0 n none, .i64 st, .bool false, .nilptr]
def ndB : List Rf → B8
 |[r0, r1, r2, r3, r4, r5, r6, r7] => gV 1 (dK r0.1 r1.1 r2.1 r3.1 r4.1 r5.1 r6.1 r7.1 r0.2 r1.2 r2.2 r3.2 r4.2 r5.2 r6.2 r7.2)
 |_ => []
abbrev ndD (l : List Rf) : D := .node (l.map fun r => aA r.1 r.2)
structure NdOk (x : List Rf) : Prop where
 len : x.length = 8
 sums : ∀ r ∈ x, r.2.length = 32
theorem cG {x : List Rf} (h : NdOk x) : (ndB x).length = 512 := by
 match x, h with
 |[r0, r1, r2, r3, r4, r5, r6, r7], h =>
  have hs := h.sums
  simp only [List.mem_cons, List.not_mem_nil, or_false, forall_eq_or_imp, forall_eq] at hs
  obtain ⟨g0, g1, g2, g3, g4, g5, g6, g7⟩ := hs
  have := eG (a0 := r0.1) (a1 := r1.1) (a2 := r2.1) (a3 := r3.1) (a4 := r4.1) (a5 := r5.1) (a6 := r6.1) (a7 := r7.1) g0 g1 g2 g3 g4 g5 g6 g7
  show (gV 1 _).length = 512
  rw [i8 (by omega)]
 |[], h => have := h.len; simp at this
 |[_], h => have := h.len; simp at this
 |[_, _], h => have := h.len; simp at this
 |[_, _, _], h => have := h.len; simp at this
 |[_, _, _, _], h => have := h.len; simp at this
 |[_, _, _, _, _], h => have := h.len; simp at this
 |[_, _, _, _, _, _], h => have := h.len; simp at this
 |[_, _, _, _, _, _, _], h => have := h.len; simp at this
 |_ :: _ :: _ :: _ :: _ :: _ :: _ :: _ :: _ :: _, h => have := h.len; simp at this
theorem wA (tag : B8) (k1 k2 : List B8) (T : Nat) (ls : List Lo) (st : Nat) (S : B8) (f : Nat) (x : List Rf) (hx : NdOk x) (ht : tag.length = 32) (hls : ∀ x ∈ ls, x.bytes.length = 512) (hf : f < T) (hT : T ≤ 4096) (hat : 512 * (8 + f) ≤ S.length) (hm : S.length ≤ 4096 + 512 * T) (hl : ls.length < 1000) (hst : st < 1000) :
  AC Tryz.prog 66 [.ptr 4 [], .u32 (BitVec.ofNat 32 f), ndD x] 8 (tsM tag k1 k2 (4096 + 512 * T) ls st S)
   ⟨.tup [aA (BitVec.ofNat 32 f + 1) (bH (ndB x)), .i64 0], (fB 3 ls).map (fun p => (p.1, none)) ++ [(0, some (dvN (4096 + 512 * T) (aY S (ndB x) (512 * (8 + f))).length 8 (ls.length + 1) (st + 1))), (1, none)],
    [(.row .cell, .u8s (aY S (ndB x) (512 * (8 + f)))), (.row tLo, b6 (ls ++ [loF (aY S (ndB x) (512 * (8 + f))) (8 + f)]))]⟩ := by
 have hQl := cG hx
 have e2 := eU hf (by omega)
 have hSl : (aY S (ndB x) (512 * (8 + f))).length = max S.length (512 * (8 + f) + 512) := by rw [cX, hQl]
 match x, hx with
 |[r0, r1, r2, r3, r4, r5, r6, r7], hx =>
  have hs := hx.sums
  simp only [List.mem_cons, List.not_mem_nil, or_false, forall_eq_or_imp, forall_eq] at hs
  obtain ⟨g0, g1, g2, g3, g4, g5, g6, g7⟩ := hs
  rcases Nat.lt_or_ge S.length (512 * (8 + f) + 512) with hg | hg
  ·have h := o8 64 1 (by decide) (by decide) tag k1 k2 (4096 + 512 * T) S.length none 4096 none ls st S (BitVec.ofNat 32 f) (8 + f) r0.1 r1.1 r2.1 r3.1 r4.1 r5.1 r6.1 r7.1 r0.2 r1.2 r2.2 r3.2 r4.2 r5.2 r6.2 r7.2 g0 g1 g2 g3 g4 g5 g6 g7
    (by rw [e2]; omega) (by decide) (by decide) ht hls rfl (by rw [e2]; omega) (by omega) hat (by omega) hm (by omega) hl hst
   rw [show (gV 1 _ : B8) = ndB [r0, r1, r2, r3, r4, r5, r6, r7] from rfl] at h
   rw [hSl, show max S.length (512 * (8 + f) + 512) = 512 * (8 + f) + 512 * 1 by omega]
   exact h
  ·have h := o9 64 1 (by decide) (by decide) tag k1 k2 (4096 + 512 * T) S.length none 4096 none ls st S (BitVec.ofNat 32 f) (8 + f) r0.1 r1.1 r2.1 r3.1 r4.1 r5.1 r6.1 r7.1 r0.2 r1.2 r2.2 r3.2 r4.2 r5.2 r6.2 r7.2 g0 g1 g2 g3 g4 g5 g6 g7
    (by rw [e2]; omega) (by decide) (by decide) ht hls rfl (by rw [e2]; omega) (by omega) hm (by omega) hl hst
   rw [show (gV 1 _ : B8) = ndB [r0, r1, r2, r3, r4, r5, r6, r7] from rfl] at h
   rw [hSl, show max S.length (512 * (8 + f) + 512) = S.length by omega]
   generalize aY S (ndB [r0, r1, r2, r3, r4, r5, r6, r7]) (512 * (8 + f)) = S' at h ⊢
   generalize bH (ndB [r0, r1, r2, r3, r4, r5, r6, r7]) = y at h ⊢
   cases ls
   all_goals exact AC.viewA h _ [0, 1, 2, 3, 4, 5, 6, 7, 1, 8]
 |[], h => have := h.len; simp at this
 |[_], h => have := h.len; simp at this
 |[_, _], h => have := h.len; simp at this
 |[_, _, _], h => have := h.len; simp at this
 |[_, _, _, _], h => have := h.len; simp at this
 |[_, _, _, _, _], h => have := h.len; simp at this
 |[_, _, _, _, _, _], h => have := h.len; simp at this
 |[_, _, _, _, _, _, _], h => have := h.len; simp at this
 |_ :: _ :: _ :: _ :: _ :: _ :: _ :: _ :: _ :: _, h => have := h.len; simp at this
theorem zR {m : Mem} {k : Nat} {e : Ent} (h : get m k = none) (hk : k ∉ m.map (·.1)) (i : Nat) : get (m ++ [(k, some e)]) i = if i = k then some e else get m i := by
 rw [eO]
 by_cases hi : i = k
 ·subst hi; rw [if_neg hk, if_pos rfl, aK, if_pos rfl]
 ·rw [if_neg hi]
  split
  ·rfl
  ·rename_i hn
   rw [aK, if_neg (fun e => hi e.symm)]
   cases hg : get m i with
   |none => rfl
   |some e' => exact absurd (List.mem_map.2 ⟨_, cC hg, rfl⟩) hn
theorem wB (tag : B8) (k1 k2 : List B8) (h1 : Rows 15 16 k1) (h2 : Rows 15 16 k2) (T : Nat) (ls : List Lo) (st : Nat) (S : B8) (f : Nat) (B : B8) (cap : Option Nat) (hB : B.length = 512) (ht : tag.length = 32) (hls : ∀ x ∈ ls, x.bytes.length = 512) (hf : f < T) (hT : T ≤ 4096) (hat : 512 * (8 + f) ≤ S.length) (hm : S.length ≤ 4096 + 512 * T) (hl : ls.length < 1000) (hst : st < 1000) :
  AC Tryz.prog 100 [.ptr 4 [], .u32 (BitVec.ofNat 32 f), .fz B cap] 9 (tsM tag k1 k2 (4096 + 512 * T) ls st S)
   ⟨.tup [aA (BitVec.ofNat 32 f + 1) (bG tag (BitVec.ofNat 32 f + 1) (cA k1 k2 B 0 (8 + f) 1)), .i64 0], (fB 3 ls).map (fun p => (p.1, none)) ++ [(0, some (dvN (4096 + 512 * T) (aY S (cA k1 k2 B 0 (8 + f) 1) (512 * (8 + f))).length 9 (ls.length + 1) (st + 1))), (1, none)],
    [(.row .cell, .u8s (aY S (cA k1 k2 B 0 (8 + f) 1) (512 * (8 + f)))), (.row tLo, b6 (ls ++ [loF (aY S (cA k1 k2 B 0 (8 + f) 1) (512 * (8 + f))) (8 + f)]))]⟩ := by
 have hQl := aS (k1 := k1) k2 (bs := B) (o := 0) (q := 8 + f) (p := 1) (by omega)
 have e2 := eU hf (by omega)
 have hSl : (aY S (cA k1 k2 B 0 (8 + f) 1) (512 * (8 + f))).length = max S.length (512 * (8 + f) + 512) := by rw [cX, hQl]
 have hn : (BitVec.ofNat 32 f).toNat ≤ 65535 := by rw [e2]; omega
 have hq : 8 + f = 8 + (BitVec.ofNat 32 f).toNat * 1 := by rw [e2]; omega
 have key : AC Tryz.prog 100 [.ptr 4 [], .u32 (BitVec.ofNat 32 f), .slice 8 [] 0 512 cap] 9 (tsM tag k1 k2 (4096 + 512 * T) ls st S ++ [(8, some ⟨.row .cell, .u8s B, false⟩)])
   ⟨.tup [aA (BitVec.ofNat 32 f + 1) (bG tag (BitVec.ofNat 32 f + 1) (cA k1 k2 B 0 (8 + f) 1)), .i64 0], (fB 3 ls).map (fun p => (p.1, none)) ++ [(0, some (dvN (4096 + 512 * T) (aY S (cA k1 k2 B 0 (8 + f) 1) (512 * (8 + f))).length 9 (ls.length + 1) (st + 1))), (1, none)],
    [(.row .cell, .u8s (aY S (cA k1 k2 B 0 (8 + f) 1) (512 * (8 + f)))), (.row tLo, b6 (ls ++ [loF (aY S (cA k1 k2 B 0 (8 + f) 1) (512 * (8 + f))) (8 + f)]))]⟩ := by
  rcases Nat.lt_or_ge S.length (512 * (8 + f) + 512) with hg | hg
  ·have h := pA 64 1 (by decide) (by decide) tag k1 k2 (4096 + 512 * T) S.length none 4096 none ls st S (BitVec.ofNat 32 f) (8 + f) B 0 cap (by omega) (by omega) h1 h2
    hq (by decide) (by decide) ht hls rfl hn (by omega) hat (by omega) hm (by omega) hl hst
   rw [hSl, show max S.length (512 * (8 + f) + 512) = 512 * (8 + f) + 512 * 1 by omega]
   exact h
  ·have h := pB 64 1 (by decide) (by decide) tag k1 k2 (4096 + 512 * T) S.length none 4096 none ls st S (BitVec.ofNat 32 f) (8 + f) B 0 cap (by omega) (by omega) h1 h2
    hq (by decide) (by decide) ht hls rfl hn (by omega) hm (by omega) hl hst
   rw [hSl, show max S.length (512 * (8 + f) + 512) = S.length by omega]
   generalize bG tag (BitVec.ofNat 32 f + 1) (cA k1 k2 B 0 (8 + f) 1) = y at h ⊢
   generalize aY S (cA k1 k2 B 0 (8 + f) 1) (512 * (8 + f)) = S' at h ⊢
   cases ls
   all_goals exact AC.viewA h _ [0, 1, 2, 3, 4, 5, 6, 7, 8, 1, 9]
 clear hSl
 generalize bG tag (BitVec.ofNat 32 f + 1) (cA k1 k2 B 0 (8 + f) 1) = y at key ⊢
 generalize aY S (cA k1 k2 B 0 (8 + f) 1) (512 * (8 + f)) = S' at key ⊢
 cases ls
 all_goals exact AC.thawA (a1 := [.ptr 4 [], .u32 (BitVec.ofNat 32 f)]) (a2 := []) key hB (zR rfl (fun h => Bool.noConfusion ((fF.2 h).symm.trans (show aBO 8 _ = false from rfl))))
def vZ (p : Nat → Bool) (l : List Nat) : Nat → Bool := l.foldl (fun p f => iH p f false) p
theorem mV : ∀ (l : List Nat) (p : Nat → Bool) (j : Nat), vZ p l j = (!decide (j ∈ l) && p j)
 |[], p, j => by simp [vZ]
 |f :: l, p, j => by
  have ih := mV l (iH p f false) j
  show vZ (iH p f false) l j = _
  rw [ih, iH]
  by_cases h : j = f
  ·subst h; simp
  ·simp [h]
theorem vH {p : Nat → Bool} {l : List Nat} {f : Nat} (h : p f = false) : vZ (iH p f true) (l ++ [f]) = vZ p l := by
 funext j
 rw [mV, mV, iH]
 by_cases hj : j = f
 ·subst hj; simp [h]
 ·simp [hj]
structure LOk (T : Nat) (s0 s : TS) : Prop where
 ok : TOk T s
 nd : s.tk.Nodup
 on : ∀ f ∈ s.tk, s.p f = true ∧ f < T
 un : vZ s.p s.tk = s0.p
 cu : s.U = s0.U + s.tk.length
 lsn : s.ls.length ≤ s0.ls.length + s.tk.length
 stn : s.st ≤ s0.st + s.tk.length
 len : s0.S.length ≤ s.S.length
 both : s.tk ≠ [] → s.ls ≠ []
section
variable {T : Nat} {s0 s : TS} (h : LOk T s0 s) (hU : s.U ≠ T)
include T s0 s h hU
theorem LOk.lt : s.tk.length < T := by
 have := h.cu; have := h.ok.cnt; have := dU s.p T; omega
theorem LOk.new : s.low T ∉ s.tk := fun hm => by
 have := (h.on _ hm).1
 rw [(h.ok.low hU).free] at this; cases this
theorem LOk.take {s' : TS} (hok : TOk T s') (hp : s'.p = iH s.p (s.low T) true) (hu : s'.U = s.U + 1) (ht : s'.tk = s.tk ++ [s.low T]) (hl : s'.ls.length ≤ s.ls.length + 1) (hs : s'.st ≤ s.st + 1) (hle : s.S.length ≤ s'.S.length) (hbo : s'.ls ≠ []) : LOk T s0 s' := by
 have hlt := h.ok.lt hU
 have hlo := h.ok.low hU
 have hn := h.new hU
 refine ⟨hok, ?_, fun f hf => ?_, ?_, ?_, ?_, ?_, Nat.le_trans h.len hle, fun _ => hbo⟩
 ·rw [ht, List.nodup_append]
  exact ⟨h.nd, by simp, fun a ha b hb => by
   have : b = s.low T := by simpa using hb
   subst this; exact fun e => hn (e ▸ ha)⟩
 ·rw [ht, List.mem_append] at hf
  rw [hp, iH]
  rcases hf with hf | hf
  ·have := h.on f hf
   refine ⟨?_, this.2⟩
   split
   ·rfl
   ·exact this.1
  ·have : f = s.low T := by simpa using hf
   subst this; rw [if_pos rfl]; exact ⟨rfl, hlt⟩
 ·rw [hp, ht, vH hlo.free]; exact h.un
 ·rw [hu, ht, List.length_append, h.cu]; simp only [List.length_cons, List.length_nil]; omega
 ·rw [ht, List.length_append]; have := h.lsn; simp only [List.length_cons, List.length_nil]; omega
 ·rw [ht, List.length_append]; have := h.stn; simp only [List.length_cons, List.length_nil]; omega
theorem LOk.lay {Q : B8} (hQ : Q.length = 512) : LOk T s0 (s.lay T Q) :=
 h.take hU (h.ok.lay hU hQ) rfl rfl rfl (by simp [TS.lay]) (Nat.le_refl _) (by rw [iQ hQ]; omega) (by simp [TS.lay])
end
structure LUn (T : Nat) (s0 s : TS) : Prop where
 few : T ≤ 4096
 nd : s.tk.Nodup
 on : ∀ f ∈ s.tk, s.p f = true ∧ f < T
 un : vZ s.p s.tk = s0.p
 cu : s.U = s0.U + s.tk.length
 cnt : s.U = kP s.p T
 len : s0.S.length ≤ s.S.length
 most : s.S.length ≤ 4096 + 512 * T
 los : ∀ x ∈ s.ls, x.bytes.length = 512
 lsn : s.ls.length ≤ s0.ls.length + s.tk.length
 stn : s.st ≤ s0.st + s.tk.length
theorem LOk.und {T : Nat} {s0 s : TS} (h : LOk T s0 s) : LUn T s0 s := ⟨h.ok.few, h.nd, h.on, h.un, h.cu, h.ok.cnt, h.len, h.ok.most, h.ok.los, h.lsn, h.stn⟩
theorem LOk.short {T : Nat} {s0 s : TS} (h : LOk T s0 s) (hU : s.U ≠ T) : LUn T s0 (s.take T) := by
 have hlt := h.ok.lt hU
 have hlo := h.ok.low hU
 have hn := h.new hU
 refine ⟨h.ok.few, ?_, fun f hf => ?_, ?_, ?_, ?_, h.len, h.ok.most, h.ok.los, ?_, ?_⟩
 ·show (s.tk ++ [s.low T]).Nodup
  rw [List.nodup_append]
  exact ⟨h.nd, by simp, fun a ha b hb => by
   have : b = s.low T := by simpa using hb
   subst this; exact fun e => hn (e ▸ ha)⟩
 ·have hf : f ∈ s.tk ++ [s.low T] := hf
  rw [List.mem_append] at hf
  show iH s.p (s.low T) true f = true ∧ _
  rw [iH]
  rcases hf with hf | hf
  ·have := h.on f hf
   refine ⟨?_, this.2⟩
   split
   ·rfl
   ·exact this.1
  ·have : f = s.low T := by simpa using hf
   subst this; rw [if_pos rfl]; exact ⟨rfl, hlt⟩
 ·show vZ (iH s.p (s.low T) true) (s.tk ++ [s.low T]) = s0.p
  rw [vH hlo.free]; exact h.un
 ·show s.U + 1 = s0.U + (s.tk ++ [s.low T]).length
  rw [List.length_append, h.cu]; simp only [List.length_cons, List.length_nil]; omega
 ·show s.U + 1 = kP (iH s.p (s.low T) true) T
  rw [mU _ _ hlo.free T hlt, h.ok.cnt]
 ·show s.ls.length ≤ s0.ls.length + (s.tk ++ [s.low T]).length
  rw [List.length_append]; have := h.lsn; omega
 ·show s.st ≤ s0.st + (s.tk ++ [s.low T]).length
  rw [List.length_append]; have := h.stn; omega
abbrev nxt (T : Nat) (s : TS) : BitVec 32 := BitVec.ofNat 32 (s.low T) + 1
def dC (T : Nat) (s : TS) (x : List Rf) : TS × Rf × Int :=
 if s.U = T then (s, rf0, 21) else (s.lay T (ndB x), (nxt T s, bH (ndB x)), 0)
abbrev dG (k1 k2 : List B8) (T : Nat) (s : TS) (b : B8) : B8 := cA k1 k2 b 0 (8 + s.low T) 1
def dH (tag : B8) (k1 k2 : List B8) (T : Nat) (s : TS) (b : B8) : TS × Rf × Int :=
 if s.U = T then (s, rf0, 21) else if b.length = 512 then (s.lay T (dG k1 k2 T s b), (nxt T s, bG tag (nxt T s) (dG k1 k2 T s b)), 0) else (s.take T, rf0, 2)
abbrev aE3 (T U : Nat) : D := .node [.i64 T, .i64 U, .slice 9 [] 0 ((T + 63) / 64) none]
abbrev layT (tk : D) : D := .node [.ptr 4 [], .ptr 8 [], tk]
abbrev lyM (tag : B8) (k1 k2 : List B8) (T : Nat) (s : TS) : Mem :=
 aCy 11 s.tk ++ ((8, some ⟨sK, aE3 T s.U, true⟩) :: (9, some ⟨.row .cell, qY s.p T, true⟩) :: (10, some ⟨tLay, layT (takD 11 s.tk), true⟩) :: gDb :: tsM tag k1 k2 (4096 + 512 * T) s.ls s.st s.S)
abbrev lyW (b T : Nat) (s s' : TS) : List (Nat × Option D) :=
 (fB 3 s.ls).map (fun p => (p.1, none)) ++ ((aCy 11 s.tk).map (fun p => (p.1, none)) ++ [(0, some (dvN (4096 + 512 * T) s'.S.length b s'.ls.length s'.st)), (1, none), (8, some (aE3 T s'.U)), (9, some (qY s'.p T)), (10, some (layT (.slice (b + 2) [] 0 s'.tk.length none)))])
abbrev lyN (s' : TS) : List (Ty × D) := [(.row .cell, .u8s s'.S), (.row tLo, b6 s'.ls), (.row .cell, aCx s'.tk)]
abbrev lyW1 (b T : Nat) (s s' : TS) : List (Nat × Option D) :=
 (aCy 11 s.tk).map (fun p => (p.1, none)) ++ [(8, some (aE3 T s'.U)), (9, some (qY s'.p T)), (10, some (layT (.slice b [] 0 s'.tk.length none)))]
theorem nd8 {x : List Rf} (h : NdOk x) : ∃ (a0 a1 a2 a3 a4 a5 a6 a7 : BitVec 32) (s0 s1 s2 s3 s4 s5 s6 s7 : B8), x = [(a0, s0), (a1, s1), (a2, s2), (a3, s3), (a4, s4), (a5, s5), (a6, s6), (a7, s7)] ∧
  s0.length = 32 ∧ s1.length = 32 ∧ s2.length = 32 ∧ s3.length = 32 ∧ s4.length = 32 ∧ s5.length = 32 ∧ s6.length = 32 ∧ s7.length = 32 := by
 match x, h with
 |[r0, r1, r2, r3, r4, r5, r6, r7], h =>
  have hs := h.sums
  simp only [List.mem_cons, List.not_mem_nil, or_false, forall_eq_or_imp, forall_eq] at hs
  exact ⟨r0.1, r1.1, r2.1, r3.1, r4.1, r5.1, r6.1, r7.1, r0.2, r1.2, r2.2, r3.2, r4.2, r5.2, r6.2, r7.2, rfl, hs⟩
 |[], h => have := h.len; simp at this
 |[_], h => have := h.len; simp at this
 |[_, _], h => have := h.len; simp at this
 |[_, _, _], h => have := h.len; simp at this
 |[_, _, _, _], h => have := h.len; simp at this
 |[_, _, _, _, _], h => have := h.len; simp at this
 |[_, _, _, _, _, _], h => have := h.len; simp at this
 |[_, _, _, _, _, _, _], h => have := h.len; simp at this
 |_ :: _ :: _ :: _ :: _ :: _ :: _ :: _ :: _ :: _, h => have := h.len; simp at this
theorem aE8 (s : Nat → Nat) : ∀ x : List Rf, D.rens s (x.map fun r => aA r.1 r.2) = x.map fun r => aA r.1 r.2
 |[] => rfl
 |r :: x => congrArg (aA r.1 r.2 :: ·) (aE8 s x)
instance (x : List Rf) : Pure (ndD x) := ⟨fun s => congrArg D.node (aE8 s x)⟩
section
variable (tag : B8) (k1 k2 : List B8) (T : Nat)
include tag k1 k2 T
theorem bB (s : TS) (x : List Rf) (hx : NdOk x) (hT : T ≤ 4096) (hU : s.U = T) :
  AC Tryz.prog 39 [.ptr 10 [], ndD x] 12 (lyM tag k1 k2 T s) ⟨.tup [aA 0 (List.replicate 32 0), .i64 21], [], []⟩ := by
 have h := lO T s.p s.tk hT
 obtain ⟨S, ls, st, p, U, tk⟩ := s
 have hU : U = T := hU
 subst hU
 obtain ⟨a0, a1, a2, a3, a4, a5, a6, a7, s0, s1, s2, s3, s4, s5, s6, s7, rfl, g0, g1, g2, g3, g4, g5, g6, g7⟩ := nd8 hx
 refine acA tab mix Tryz.func39 {} ?_
 cases ls <;> cases tk
 all_goals
  refine gob ?_
  refine aB h [4, 8, 9, 10, 11] ?_
  refine aF [0, 1, 2, 3, 4, 5, 6, 7, 8, 9, 10, 11]
theorem dZ (s0 s : TS) (x : List Rf) (hx : NdOk x) (ht : tag.length = 32) (hs : LOk T s0 s) (hU : s.U ≠ T) (hn : s0.ls.length + T ≤ 999) (hn2 : s0.st + T ≤ 999) :
  AC Tryz.prog 39 [.ptr 10 [], ndD x] 12 (lyM tag k1 k2 T s) ⟨.tup [aA (nxt T s) (bH (ndB x)), .i64 0], lyW 12 T s (s.lay T (ndB x)), lyN (s.lay T (ndB x))⟩ := by
 have hlt := hs.lt hU
 have hls := hs.lsn
 have hst := hs.stn
 have hT := hs.ok.few
 have hf := hs.ok.lt hU
 have h1 := rP T s.U (s.low T) s.p s.tk (hs.ok.low hU) hf (by have := hs.ok.cnt; have := dU s.p T; omega) hT (by omega)
 have h2 := wA tag k1 k2 T s.ls s.st s.S (s.low T) x hx ht hs.ok.los hf hT (hs.ok.at hU) hs.ok.most (by omega) (by omega)
 dsimp only [TS.lay, TS.take, lyW, lyN, nxt] at h1 h2 ⊢
 simp only [List.length_append, List.length_cons, List.length_nil, Nat.zero_add]
 have hyl := aH (ndB x)
 clear hs
 generalize s.low T = f at h1 h2 ⊢
 obtain ⟨S, ls, st, p, U, tk⟩ := s
 dsimp only at h1 h2 ⊢
 generalize aY S (ndB x) (512 * (8 + f)) = S' at h2 ⊢
 generalize bH (ndB x) = y at h2 hyl ⊢
 obtain ⟨a0, a1, a2, a3, a4, a5, a6, a7, s0, s1, s2, s3, s4, s5, s6, s7, rfl, g0, g1, g2, g3, g4, g5, g6, g7⟩ := nd8 hx
 refine acA tab mix Tryz.func39 {} ?_
 cases ls <;> cases tk
 all_goals
  refine gob ?_
  refine aB h1 [4, 8, 9, 10, 11] ?_
  refine aB h2 [0, 1, 2, 3, 4, 5, 6, 7] ?_
  refine aF [0, 1, 2, 3, 4, 5, 6, 7, 8, 9, 10, 11, 15, 16, 14]
theorem sZ (ls : List Lo) (st : Nat) (S : B8) (f : Nat) (B : B8) (cap : Option Nat) (hB : B.length ≠ 512) (hB2 : B.length < 9223372036854775808) (hf : f < T) (hT : T ≤ 4096) : AC Tryz.prog 100 [.ptr 4 [], .u32 (BitVec.ofNat 32 f), .fz B cap] 9 (tsM tag k1 k2 (4096 + 512 * T) ls st S) ⟨.tup [aA 0 (List.replicate 32 0), .i64 2], [], []⟩ := by
 have e2 := eU hf (by omega)
 have hsz := cF 0 0 64 1 tag (by decide) (by decide) (by decide)
 have key : AC Tryz.prog 100 [.ptr 4 [], .u32 (BitVec.ofNat 32 f), .slice 8 [] 0 B.length cap] 9 (tsM tag k1 k2 (4096 + 512 * T) ls st S ++ [(8, some ⟨.row .cell, .u8s B, false⟩)]) ⟨.tup [aA 0 (List.replicate 32 0), .i64 2], [], []⟩ := by
  refine acA tab mix Tryz.func100 {} ?_
  cases ls
  all_goals
   refine gob ?_
   refine brN ?_ (decide_eq_false (show ¬ 65535 < (BitVec.ofNat 32 f).toNat by rw [e2]; omega))
   refine gob ?_
   refine aB hsz [4, 0, 5] ?_
   refine Br.yes (show (!decide (((B.length : Nat) : Int) = ((512 * 1 : Nat) : Int))) = true by rw [decide_eq_false (by omega)]; rfl) ?_
   refine gob ?_
   refine aF [0, 1, 2, 3, 4, 5, 6, 7, 8]
 cases ls
 all_goals exact AC.thawA (a1 := [.ptr 4 [], .u32 (BitVec.ofNat 32 f)]) (a2 := []) key rfl (zR rfl (fun h => Bool.noConfusion ((fF.2 h).symm.trans (show aBO 8 _ = false from rfl))))
theorem dA (s : TS) (b : B8) (cap : Option Nat) (hT : T ≤ 4096) (hU : s.U = T) :
  AC Tryz.prog 64 [.ptr 10 [], .fz b cap] 12 (lyM tag k1 k2 T s) ⟨.tup [aA 0 (List.replicate 32 0), .i64 21], [], []⟩ := by
 have h := lO T s.p s.tk hT
 obtain ⟨S, ls, st, p, U, tk⟩ := s
 have hU : U = T := hU
 subst hU
 refine acA tab mix Tryz.func64 {} ?_
 cases ls <;> cases tk
 all_goals
  refine gob ?_
  refine aB h [4, 8, 9, 10, 11] ?_
  refine aF [0, 1, 2, 3, 4, 5, 6, 7, 8, 9, 10, 11]
theorem cH (s0 s : TS) (b : B8) (cap : Option Nat) (hb : b.length ≠ 512) (hb2 : b.length < 9223372036854775808) (hs : LOk T s0 s) (hU : s.U ≠ T) :
  AC Tryz.prog 64 [.ptr 10 [], .fz b cap] 12 (lyM tag k1 k2 T s) ⟨.tup [aA 0 (List.replicate 32 0), .i64 2], lyW1 12 T s (s.take T), [(.row .cell, aCx (s.take T).tk)]⟩ := by
 have hlt := hs.lt hU
 have hT := hs.ok.few
 have hf := hs.ok.lt hU
 have h1 := rP T s.U (s.low T) s.p s.tk (hs.ok.low hU) hf (by have := hs.ok.cnt; have := dU s.p T; omega) hT (by omega)
 have h2 := sZ tag k1 k2 T s.ls s.st s.S (s.low T) b cap hb hb2 hf hT
 dsimp only [TS.take, lyW1] at h1 h2 ⊢
 simp only [List.length_append, List.length_cons, List.length_nil, Nat.zero_add]
 clear hs
 generalize s.low T = f at h1 h2 ⊢
 obtain ⟨S, ls, st, p, U, tk⟩ := s
 dsimp only at h1 h2 ⊢
 refine acA tab mix Tryz.func64 {} ?_
 cases ls <;> cases tk
 all_goals
  refine gob ?_
  refine aB h1 [4, 8, 9, 10, 11] ?_
  refine aB h2 [0, 1, 2, 3, 4, 5, 6, 7] ?_
  refine aF [0, 1, 2, 3, 4, 5, 6, 7, 8, 9, 10, 11, 13]
end
theorem iP (tag : B8) (k1 k2 : List B8) (hk1 : Rows 15 16 k1) (hk2 : Rows 15 16 k2) (T : Nat) (s0 s : TS) (b : B8) (cap : Option Nat) (hb : b.length = 512) (ht : tag.length = 32) (hs : LOk T s0 s) (hU : s.U ≠ T) (hn : s0.ls.length + T ≤ 999) (hn2 : s0.st + T ≤ 999) :
  AC Tryz.prog 64 [.ptr 10 [], .fz b cap] 12 (lyM tag k1 k2 T s) ⟨.tup [aA (nxt T s) (bG tag (nxt T s) (dG k1 k2 T s b)), .i64 0], lyW 12 T s (s.lay T (dG k1 k2 T s b)), lyN (s.lay T (dG k1 k2 T s b))⟩ := by
 have hlt := hs.lt hU
 have hls := hs.lsn
 have hst := hs.stn
 have hT := hs.ok.few
 have hf := hs.ok.lt hU
 have h1 := rP T s.U (s.low T) s.p s.tk (hs.ok.low hU) hf (by have := hs.ok.cnt; have := dU s.p T; omega) hT (by omega)
 have h2 := wB tag k1 k2 hk1 hk2 T s.ls s.st s.S (s.low T) b cap hb ht hs.ok.los hf hT (hs.ok.at hU) hs.ok.most (by omega) (by omega)
 have hyl := aI tag (nxt T s) (dG k1 k2 T s b)
 dsimp only [TS.lay, TS.take, lyW, lyN, nxt, dG] at h1 h2 hyl ⊢
 simp only [List.length_append, List.length_cons, List.length_nil, Nat.zero_add]
 clear hs
 generalize s.low T = f at h1 h2 hyl ⊢
 obtain ⟨S, ls, st, p, U, tk⟩ := s
 dsimp only at h1 h2 ⊢
 generalize cA k1 k2 b 0 (8 + f) 1 = Q at h2 hyl ⊢
 generalize bG tag (BitVec.ofNat 32 f + 1) Q = y at h2 hyl ⊢
 generalize aY S Q (512 * (8 + f)) = S' at h2 ⊢
 refine acA tab mix Tryz.func64 {} ?_
 cases ls <;> cases tk
 all_goals
  refine gob ?_
  refine aB h1 [4, 8, 9, 10, 11] ?_
  refine aB h2 [0, 1, 2, 3, 4, 5, 6, 7] ?_
  refine aF [0, 1, 2, 3, 4, 5, 6, 7, 8, 9, 10, 11, 14, 15, 13]
abbrev nd0 : List Rf := List.replicate 8 rf0
abbrev nd0_ok : NdOk nd0 := ⟨rfl, fun r hr => by rw [List.eq_of_mem_replicate hr]; rfl⟩
abbrev qRf (r : Rf) : Nat := 8 + (r.1 - 1).toNat
def ndI (Q : B8) (i : Nat) : Rf := (u4G Q (36 * i), (Q.drop (36 * i + 4)).take 32)
def ndG (Q : B8) : List Rf := [ndI Q 0, ndI Q 1, ndI Q 2, ndI Q 3, ndI Q 4, ndI Q 5, ndI Q 6, ndI Q 7]
theorem ndG_eq (Q : B8) : aAg Q = ndD (ndG Q) := rfl
theorem ndG_ok {Q : B8} (h : 288 ≤ Q.length) : NdOk (ndG Q) := by
 refine ⟨rfl, fun r hr => ?_⟩
 unfold ndG at hr
 simp only [List.mem_cons, List.not_mem_nil, or_false] at hr
 rcases hr with rfl | rfl | rfl | rfl | rfl | rfl | rfl | rfl
 all_goals
  show ((Q.drop _).take 32).length = 32
  rw [List.length_take, List.length_drop]; omega
def uB (Q : B8) : List Rf × Int := bif aBH Q || !cW Q 288 (512 * 1 - 288) then (nd0, 40) else (ndG Q, 0)
theorem zI (Q : B8) : (qE Q 1).1 = ndD (uB Q).1 ∧ (qE Q 1).2 = (uB Q).2 := by
 unfold qE uB
 cases aBH Q || !cW Q 288 (512 * 1 - 288)
 ·exact ⟨ndG_eq Q, rfl⟩
 ·exact ⟨rfl, rfl⟩
def nodeT (S : B8) (r : Rf) : List Rf × Int :=
 if r.1.toNat = 0 ∨ 65536 < r.1.toNat then (nd0, 2) else if S.length < 512 * qRf r + 512 * 1 then (nd0, 40) else if bH (eP S (qRf r) 1) = r.2 then uB (eP S (qRf r) 1) else (nd0, 40)
def tnR (S : B8) (r : Rf) : List Rf × Int := if r.1 = 0 then (nd0, 0) else nodeT S r
section
variable {S : B8}
include S
theorem oN {q : Nat} (h : 512 * q + 512 * 1 ≤ S.length) : (eP S q 1).length = 512 := by rw [eP, List.length_take, List.length_drop]; omega
theorem j9 {r : Rf} : NdOk (nodeT S r).1 := by
 unfold nodeT
 split
 ·exact nd0_ok
 split
 ·exact nd0_ok
 rename_i h
 split
 ·unfold uB
  cases aBH _ || !cW _ 288 (512 * 1 - 288)
  ·exact ndG_ok (by rw [oN (by omega)]; omega)
  ·exact nd0_ok
 ·exact nd0_ok
theorem pP {r : Rf} : NdOk (tnR S r).1 := by
 unfold tnR
 split
 ·exact nd0_ok
 ·exact j9
theorem nX {r : Rf} : (nodeT S r).2 = 0 ∨ (nodeT S r).2 = 2 ∨ (nodeT S r).2 = 40 := by
 unfold nodeT
 split
 ·exact .inr (.inl rfl)
 split
 ·exact .inr (.inr rfl)
 split
 ·unfold uB
  cases aBH _ || !cW _ 288 (512 * 1 - 288)
  ·exact .inl rfl
  ·exact .inr (.inr rfl)
 ·exact .inr (.inr rfl)
theorem aAN {r : Rf} : (tnR S r).2 = 0 ∨ (tnR S r).2 = 2 ∨ (tnR S r).2 = 40 := by
 unfold tnR
 split
 ·exact .inl rfl
 ·exact nX
end
section
variable (tag : B8) (k1 k2 : List B8) (most : Nat) (ls : List Lo) (st : Nat) (S : B8) (r : Rf) (hr : r.2.length = 32) (ht : tag.length = 32) (hm : S.length ≤ 16777216)
include tag k1 k2 most ls st S r hr ht hm
theorem jZ :
  AC Tryz.prog 40 [.ptr 4 [], aA r.1 r.2] 8 (tsM tag k1 k2 most ls st S) ⟨.tup [ndD (nodeT S r).1, .i64 (nodeT S r).2], [], []⟩ := by
 unfold nodeT
 split
 ·rename_i h
  exact AC.lift (aAe r.1 r.2 hr h) [4] 8 _ trivial
 rename_i h
 split
 ·rename_i h2
  exact aAb 64 1 (by decide) (by decide) tag k1 k2 most S.length none 4096 none ls st S r.1 r.2 (qRf r) (by unfold qRf; omega) (by decide) (by decide) ht hr rfl (by omega) (by omega) (by omega) h2
 rename_i h2
 split
 ·rename_i h3
  have := aAd 64 1 (by decide) (by decide) tag k1 k2 most S.length none 4096 none ls st S r.1 r.2 (qRf r) (by unfold qRf; omega) (by decide) (by decide) ht hr rfl (by omega) (by omega) (by omega) (by omega) h3
  rw [(zI _).1, (zI _).2] at this
  exact this
 ·rename_i h3
  exact aAc 64 1 (by decide) (by decide) tag k1 k2 most S.length none 4096 none ls st S r.1 r.2 (qRf r) (by unfold qRf; omega) (by decide) (by decide) ht hr rfl (by omega) (by omega) (by omega) (by omega) h3
theorem jX :
  AC Tryz.prog 34 [.ptr 4 [], aA r.1 r.2] 8 (tsM tag k1 k2 most ls st S) ⟨.tup [ndD (tnR S r).1, .i64 (tnR S r).2], [], []⟩ := by
 have h := jZ tag k1 k2 most ls st S r hr ht hm
 have hok := j9 (S := S) (r := r)
 have hei := nX (S := S) (r := r)
 unfold tnR
 obtain ⟨⟨x, e⟩, hR⟩ : ∃ R, R = nodeT S r := ⟨_, rfl⟩
 rw [← hR] at h hok hei ⊢
 obtain ⟨a, y⟩ := r
 have hr : y.length = 32 := hr
 have hei' : inI e := by
  have hei : e = 0 ∨ e = 2 ∨ e = 40 := hei
  unfold inI; omega
 clear hR
 obtain ⟨a0, a1, a2, a3, a4, a5, a6, a7, s0, s1, s2, s3, s4, s5, s6, s7, rfl, g0, g1, g2, g3, g4, g5, g6, g7⟩ := nd8 hok
 clear hei hok
 dsimp only [ndD, List.map] at h ⊢
 by_cases h0 : a = 0
 ·subst h0
  rw [if_pos rfl]
  refine acA tab mix Tryz.func34 {} ?_
  cases ls
  all_goals
   refine gob ?_
   refine aF [0, 1, 2, 3, 4, 5, 6, 7]
 ·rw [if_neg h0]
  refine acA tab mix Tryz.func34 {} ?_
  cases ls
  all_goals
   refine gob ?_
   refine Br.no (decide_eq_false h0) ?_
   refine gob ?_
   refine e9 h [0, 1, 2, 3, 4, 5, 6, 7] (.tup [.node [aA a0 s0, aA a1 s1, aA a2 s2, aA a3 s3, aA a4 s4, aA a5 s5, aA a6 s6, aA a7 s7], .i64 e]) ?_
   refine gob ?_
   refine aF [0, 1, 2, 3, 4, 5, 6, 7]
end
abbrev Chg := Nat × B8
abbrev tCh : Ty := .st [.cell, .cell]
def chD (cz : Option Nat) (c : Chg) : D := .node [.i64 (c.1 : Nat), .fz c.2 cz]
abbrev qR (cz : Option Nat) (l : List Chg) : D := .node (l.map (chD cz))
theorem aBs (cz : Option Nat) (s : Nat → Nat) : ∀ l : List Chg, D.rens s (l.map (chD cz)) = l.map (chD cz)
 |[] => rfl
 |c :: l => congrArg (chD cz c :: ·) (aBs cz s l)
instance (cz : Option Nat) (l : List Chg) : Pure (qR cz l) := ⟨fun s => congrArg D.node (aBs cz s l)⟩
theorem dY {cz : Option Nat} {l : List Chg} {i : Nat} (h : i < l.length) : d9 (l.map (chD cz)) i = chD cz (l.getD i (0, [])) := by
 unfold d9
 rw [gK, List.getElem?_map, List.getD_eq_getElem?_getD, List.getElem?_eq_getElem h]
 rfl
def bF (tag : B8) (k1 k2 : List B8) (T : Nat) : List Chg → TS → List Rf → TS × Rf × Int
 |[], s, x => dC T s x
 |c :: r, s, x => if (dH tag k1 k2 T s c.2).2.2 = 0 then bF tag k1 k2 T r (dH tag k1 k2 T s c.2).1 (x.set (c.1 % 8) (dH tag k1 k2 T s c.2).2.1) else ((dH tag k1 k2 T s c.2).1, rf0, (dH tag k1 k2 T s c.2).2.2)
def dM (tag : B8) (k1 k2 : List B8) (T : Nat) (s : TS) (old : Rf) (l : List Chg) : TS × Rf × Int :=
 if (tnR s.S old).2 = 0 then bF tag k1 k2 T l s (tnR s.S old).1 else (s, rf0, (tnR s.S old).2)
abbrev lyMg (a b c : Nat) (tag : B8) (k1 k2 : List B8) (T : Nat) (s : TS) : Mem :=
 aCy c s.tk ++ (fB b s.ls ++ [(0, some ⟨tDv, .node [.i64 (4096 + 512 * T : Nat), .slice a [] 0 s.S.length none, .slice 2 [] 0 4096 none, oY b s.ls, .i64 s.st, .bool false, .nilptr], true⟩), (a, some ⟨.row .cell, .u8s s.S, true⟩),
  (4, some ⟨tSp, aFE 0 5 64 1 tag, true⟩), (5, some ⟨tX, .node [.ptr 6 [], .ptr 7 []], true⟩), (6, some ⟨tC, bP k1, true⟩), (7, some ⟨tC, bP k2, true⟩),
  (8, some ⟨sK, aE3 T s.U, true⟩), (9, some ⟨.row .cell, qY s.p T, true⟩), (10, some ⟨tLay, layT (takD c s.tk), true⟩), gDb, gR])
abbrev lyV (b T : Nat) (s s' : TS) (lo tk : D) : List (Nat × Option D) :=
 (fB 3 s.ls).map (fun p => (p.1, none)) ++ ((aCy 11 s.tk).map (fun p => (p.1, none)) ++ [(0, some (.node [.i64 (4096 + 512 * T : Nat), .slice b [] 0 s'.S.length none, .slice 2 [] 0 4096 none, lo, .i64 s'.st, .bool false, .nilptr])), (1, none), (8, some (aE3 T s'.U)), (9, some (qY s'.p T)), (10, some (layT tk))])
def xE (b T : Nat) (s s' : TS) (r : D) : Out :=
 match s'.ls, s'.tk with
 |x :: l, y :: t => ⟨r, lyV b T s s' (.slice (b + 1) [] 0 (l.length + 1) none) (.slice (b + 2) [] 0 (t.length + 1) none), [(.row .cell, .u8s s'.S), (.row tLo, b6 (x :: l)), (.row .cell, aCx (y :: t))]⟩
 |x :: l, [] => ⟨r, lyV b T s s' (.slice (b + 1) [] 0 (l.length + 1) none) .nilslice, [(.row .cell, .u8s s'.S), (.row tLo, b6 (x :: l))]⟩
 |[], y :: t => ⟨r, lyV b T s s' .nilslice (.slice (b + 1) [] 0 (t.length + 1) none), [(.row .cell, .u8s s'.S), (.row .cell, aCx (y :: t))]⟩
 |[], [] => ⟨r, lyV b T s s' .nilslice .nilslice, [(.row .cell, .u8s s'.S)]⟩
theorem aDp (b T : Nat) (s s' : TS) (r : D) : (xE b T s s' r).nw.length ≤ 3 := by
 unfold xE
 split
 all_goals simp
structure Goes (s s' : TS) : Prop where
 ls : s.ls ≠ [] → s'.ls ≠ []
 tk : s.tk ≠ [] → s'.tk ≠ []
theorem Goes.refl (s : TS) : Goes s s := ⟨id, id⟩
theorem Goes.lay {T : Nat} {s s1 : TS} (h : Goes s s1) (Q : B8) : Goes s (s1.lay T Q) := ⟨fun _ => by simp [TS.lay], fun _ => by simp [TS.lay, TS.take]⟩
theorem Goes.take {T : Nat} {s s1 : TS} (h : Goes s s1) : Goes s (s1.take T) := ⟨h.ls, fun _ => by simp [TS.take]⟩
theorem aO {α : Type} {l : List α} (h : l ≠ []) : ∃ a r, l = a :: r := by
 cases l with
 |nil => exact absurd rfl h
 |cons a r => exact ⟨a, r, rfl⟩
theorem bM {α : Type} {l : List α} {i : Nat} {z : α} (h : i < l.length) : l.getD i z ∈ l := by
 rw [List.getD_eq_getElem?_getD, List.getElem?_eq_getElem h]
 exact List.getElem_mem h
theorem d6 {L : List Chg} {o n i : Nat} (hL : o + n ≤ L.length) (hi : i < n) : ((L.drop o).take n).drop i = L.getD (o + i) (0, []) :: ((L.drop o).take n).drop (i + 1) := by
 have hl : i < ((L.drop o).take n).length := by rw [List.length_take, List.length_drop]; omega
 rw [List.drop_eq_getElem_cons hl]
 congr 1
 rw [List.getElem_take, List.getElem_drop, List.getD_eq_getElem?_getD, List.getElem?_eq_getElem (by omega)]
 rfl
theorem NdOk.set {x : List Rf} (h : NdOk x) (i : Nat) {r : Rf} (hr : r.2.length = 32) : NdOk (x.set i r) :=
 ⟨by rw [List.length_set]; exact h.len, fun y hy => (List.mem_or_eq_of_mem_set hy).elim (h.sums y) fun e => e ▸ hr⟩
set_option maxHeartbeats 16000000 in
theorem mY (tag : B8) (k1 k2 : List B8) (hk1 : Rows 15 16 k1) (hk2 : Rows 15 16 k2) (T : Nat) (s0 s : TS) (old : Rf) (L : List Chg) (o n : Nat) (cap cz : Option Nat) (hr : old.2.length = 32) (ht : tag.length = 32) (hs : LOk T s0 s) (hn : s0.ls.length + T ≤ 999) (hn2 : s0.st + T ≤ 999) (hL : o + n ≤ L.length) (hL2 : L.length ≤ 10000) (hb : ∀ c ∈ L, c.2.length < 100000 ∧ c.1 < 64) :
  AC Tryz.prog 38 [.ptr 10 [], aA old.1 old.2, .slice 12 [] o n cap] 13 (lyM tag k1 k2 T s ++ [(12, some ⟨.row tCh, qR cz L, false⟩)])
   (xE 13 T s (dM tag k1 k2 T s old ((L.drop o).take n)).1 (.tup [aA (dM tag k1 k2 T s old ((L.drop o).take n)).2.1.1 (dM tag k1 k2 T s old ((L.drop o).take n)).2.1.2, .i64 (dM tag k1 k2 T s old ((L.drop o).take n)).2.2])) := by
 have hm := hs.ok.most
 have hT := hs.ok.few
 have h1 := jX tag k1 k2 (4096 + 512 * T) s.ls s.st s.S old hr ht (by omega)
 have hok := pP (S := s.S) (r := old)
 have hei := aAN (S := s.S) (r := old)
 unfold dM
 generalize tnR s.S old = R at h1 hok hei ⊢
 obtain ⟨x, e⟩ := R
 dsimp only at h1 hok hei ⊢
 obtain ⟨oa, os⟩ := old
 dsimp only at h1 hr ⊢
 have hxt : aD tNd (ndD x) := by
  obtain ⟨a0, a1, a2, a3, a4, a5, a6, a7, s0, s1, s2, s3, s4, s5, s6, s7, rfl, g0, g1, g2, g3, g4, g5, g6, g7⟩ := nd8 hok
  exact ⟨rfl, ⟨rfl, g0, trivial⟩, ⟨rfl, g1, trivial⟩, ⟨rfl, g2, trivial⟩, ⟨rfl, g3, trivial⟩, ⟨rfl, g4, trivial⟩, ⟨rfl, g5, trivial⟩, ⟨rfl, g6, trivial⟩, ⟨rfl, g7, trivial⟩, trivial⟩
 have hei' : inI e := by unfold inI; omega
 by_cases he : e = 0
 ·rw [if_pos he]
  subst he
  clear hei hei'
  generalize hR : bF tag k1 k2 T ((L.drop o).take n) s x = R
  have hgo := Goes.refl s
  have hnw := aDp 13 T s R.1 (.tup [aA R.2.1.1 R.2.1.2, .i64 R.2.2])
  refine acA tab mix Tryz.func38 {} ?_ (hnp := Nat.ble_eq_true_of_le (by omega))
  obtain ⟨S, ls, st, p, U, tk⟩ := s
  dsimp only at h1 ⊢
  have hbo := hs.both
  rcases ls with _ | ⟨a0, l0⟩ <;> rcases tk with _ | ⟨f0, t0⟩
  ·-- nil nil
   refine gob ?_
   refine e9 h1 [0, 1, 2, 3, 4, 5, 6, 7] (.tup [ndD x, .i64 0]) ?_ (hr := congrArg (fun d => D.tup [d, _]) (Pure.ren _))
   refine gob ?_
   refine EffG.mk (And.intro ⟨trivial, hxt⟩ ?_)
   refine gob ?_
   refine aT (Nat × TS × List Rf) (fun v => [(0, .ptr 10 []), (6, .ptr 14 []), (7, .i64 0), (8, .ptr 15 []), (27, .slice 12 [] o n cap), (28, .i64 (n : Nat)), (29, .i64 (v.1 : Nat))])
    (fun v => lyMg 16 17 18 tag k1 k2 T v.2.1 ++ [(12, some ⟨.row tCh, qR cz L, false⟩), (14, some ⟨lK, aA 0 (zB 32), true⟩), (15, some ⟨tNd, ndD v.2.2, true⟩)]) 19
    (fun v => v.1 ≤ n ∧ LOk T s0 v.2.1 ∧ Goes _ v.2.1 ∧ NdOk v.2.2 ∧ bF tag k1 k2 T (((L.drop o).take n).drop v.1) v.2.1 v.2.2 = R) (fun v => n - v.1) (0, _, x) [0, 1, 2, 3, 4, 5, 6, 7, 8, 9, 10, 11, 12, 13, 14, 15, 1, 3, 11] ⟨Nat.zero_le _, hs, hgo, hok, hR⟩ viewA ?_
   clear hR hs hgo hok hxt h1
   rintro ⟨i, y, x⟩ ⟨hi, hy, hg, hxo, hR⟩
   have hi : i ≤ n := hi
   have hy : LOk T s0 y := hy
   have hxo : NdOk x := hxo
   have hR : bF tag k1 k2 T (((L.drop o).take n).drop i) y x = R := hR
   obtain ⟨S1, ls1, st1, p1, U1, tk1⟩ := y
   have hyo := hy.ok
   rcases ls1 with _ | ⟨a1, l1⟩ <;> rcases tk1 with _ | ⟨f1, t1⟩
   ·-- nil nil
    refine gob ?_
    refine Br.split (fun h => ?_) (fun h => ?_)
    ·have hi2 : i < n := by have := of_decide_eq_true h; omega
     obtain ⟨⟨at', b⟩, hc⟩ : ∃ c, c = L.getD (o + i) (0, []) := ⟨_, rfl⟩
     have hnth : d9 (L.map (chD cz)) (o + Int.toNat (i : Int)) = .node [.i64 (at' : Nat), .fz b cz] := by rw [Int.toNat_natCast, dY (by omega), ← hc]; rfl
     obtain ⟨hb1, hb2⟩ : b.length < 100000 ∧ at' < 64 := hb (at', b) (by rw [hc]; exact bM (by omega))
     rw [d6 (by omega) hi2, ← hc, bF] at hR
     clear hc
     have q8 : Int.tmod (at' : Int) 8 = ((at' % 8 : Nat) : Int) := (Int.ofNat_tmod at' 8).symm
     refine gob ?_
     refine EffG.mk (And.intro ⟨trivial, by rw [hnth]; exact ⟨rfl, rfl, trivial⟩⟩ ?_)
     rw [hnth]
     refine gob ?_
     by_cases hU : U1 = T
     ·have hd := dA tag k1 k2 T ⟨S1, [], st1, p1, U1, []⟩ b cz hT hU
      rw [dH, if_pos hU] at hR
      have hR : (_, rf0, 21) = R := hR
      subst hR
      refine aB hd [0, 16, 2, 17, 4, 5, 6, 7, 8, 9, 10, 18] ?_
      refine aF [0, 1, 2, 3, 4, 5, 6, 7, 8, 9, 10, 11, 12, 16]
     ·by_cases hlen : b.length = 512
      ·rw [dH, if_neg hU, if_pos hlen] at hR
       have hd := iP tag k1 k2 hk1 hk2 T s0 _ b cz hlen ht hy hU hn hn2
       have hQl := aS (k1 := k1) k2 (bs := b) (o := 0) (q := 8 + TS.low T ⟨S1, [], st1, p1, U1, []⟩) (p := 1) (by omega)
       have hzl := aI tag (nxt T ⟨S1, [], st1, p1, U1, []⟩) (dG k1 k2 T ⟨S1, [], st1, p1, U1, []⟩ b)
       dsimp only [dG] at hR hd hzl
       generalize cA k1 k2 b 0 (8 + TS.low T ⟨S1, [], st1, p1, U1, []⟩) 1 = Q at hR hd hzl hQl
       have hy2 := hy.lay hU hQl
       have hg2 := hg.lay (T := T) Q
       have hR : bF tag k1 k2 T _ _ (x.set (at' % 8) (nxt T _, bG tag (nxt T _) Q)) = R := hR
       have hne : (TS.lay T ⟨S1, [], st1, p1, U1, []⟩ Q).ls ≠ [] ∧ (TS.lay T ⟨S1, [], st1, p1, U1, []⟩ Q).tk ≠ [] := ⟨by simp [TS.lay], by simp [TS.lay, TS.take]⟩
       generalize bG tag (nxt T ⟨S1, [], st1, p1, U1, []⟩) Q = z at hR hd hzl
       generalize nxt T ⟨S1, [], st1, p1, U1, []⟩ = nm at hR hd
       generalize TS.lay T ⟨S1, [], st1, p1, U1, []⟩ Q = y2 at hR hd hy2 hg2 hne
       obtain ⟨S2, ls2, st2, p2, U2, tk2⟩ := y2
       obtain ⟨a2, l2, rfl⟩ := aO (l := ls2) hne.1
       obtain ⟨f2, t2, rfl⟩ := aO (l := tk2) hne.2
       have hxo2 := hxo.set (at' % 8) (r := (nm, z)) hzl
       have q9 : (Int.tmod (at' : Int) 8).toNat < x.length := by rw [q8, Int.toNat_natCast, hxo.len]; omega
       have q7 : (Int.tmod (at' : Int) 8).toNat = at' % 8 := by rw [q8, Int.toNat_natCast]
       refine aB hd [0, 16, 2, 17, 4, 5, 6, 7, 8, 9, 10, 18] ?_
       refine aQ (i + 1, _, x.set (at' % 8) (nm, z)) [0, 1, 2, 3, 4, 5, 6, 7, 8, 9, 10, 11, 12, 13, 14, 15, 20, 21, 22] (viewA (h3 := ?_)) ⟨show i + 1 ≤ n by omega, hy2, hg2, hxo2, hR⟩ (show n - (i + 1) < n - i by omega)
       (repeat' (first | exact trivial | refine And.intro ⟨_, rfl, rfl, ?_, id⟩ ?_ | refine And.intro ⟨_, rfl, rfl, ?_, fun _ => rfl⟩ ?_)) <;> first | rfl | exact (Pure.ren _).symm | exact (Pure.ren _).trans (Pure.ren _).symm | (rw [q7]; exact (congrArg D.node List.map_set.symm).trans (Pure.ren (d := ndD (x.set (at' % 8) (nm, z))) _).symm)
      ·rw [dH, if_neg hU, if_neg hlen] at hR
       have hd := cH tag k1 k2 T s0 _ b cz hlen (by omega) hy hU
       have hR : (TS.take T _, rf0, 2) = R := hR
       subst hR
       have hne : (TS.take T ⟨S1, [], st1, p1, U1, []⟩).tk ≠ [] ∧ (TS.take T ⟨S1, [], st1, p1, U1, []⟩).ls = [] ∧ (TS.take T ⟨S1, [], st1, p1, U1, []⟩).S = S1 ∧ (TS.take T ⟨S1, [], st1, p1, U1, []⟩).st = st1 := ⟨by simp [TS.take], rfl, rfl, rfl⟩
       generalize TS.take T ⟨S1, [], st1, p1, U1, []⟩ = y2 at hd hne ⊢
       obtain ⟨S2, ls2, st2, p2, U2, tk2⟩ := y2
       obtain ⟨hne, hl2, hS2, hst2⟩ := hne
       dsimp only at hl2 hS2 hst2
       subst hl2 hS2 hst2
       obtain ⟨f2, t2, rfl⟩ := aO (l := tk2) hne
       refine aB hd [0, 16, 2, 17, 4, 5, 6, 7, 8, 9, 10, 18] ?_
       refine aF [0, 1, 2, 3, 4, 5, 6, 7, 8, 9, 10, 11, 12, 16, 20]
    ·have hi2 : i = n := by have := of_decide_eq_false h; omega
     have hnil : ((L.drop o).take n).drop i = [] := List.drop_eq_nil_of_le (by rw [List.length_take]; omega)
     rw [hnil, bF] at hR
     by_cases hU : U1 = T
     ·have hd := bB tag k1 k2 T ⟨S1, [], st1, p1, U1, []⟩ x hxo hT hU
      rw [dC, if_pos hU] at hR
      have hR : (_, rf0, 21) = R := hR
      subst hR
      refine gob ?_
      refine aB hd [0, 16, 2, 17, 4, 5, 6, 7, 8, 9, 10, 18] ?_ (hargs := by simp only [D.rens, Pure.ren]; rfl)
      refine aF [0, 1, 2, 3, 4, 5, 6, 7, 8, 9, 10, 11, 12, 16]
     ·rw [dC, if_neg hU] at hR
      have hd := dZ tag k1 k2 T s0 _ x hxo ht hy hU hn hn2
      have hzl := aH (ndB x)
      have hR : (TS.lay T _ (ndB x), (nxt T _, bH (ndB x)), 0) = R := hR
      have hne : (TS.lay T ⟨S1, [], st1, p1, U1, []⟩ (ndB x)).ls ≠ [] ∧ (TS.lay T ⟨S1, [], st1, p1, U1, []⟩ (ndB x)).tk ≠ [] := ⟨by simp [TS.lay], by simp [TS.lay, TS.take]⟩
      generalize bH (ndB x) = z at hR hd hzl
      generalize nxt T ⟨S1, [], st1, p1, U1, []⟩ = nm at hR hd
      generalize TS.lay T ⟨S1, [], st1, p1, U1, []⟩ (ndB x) = y2 at hR hd hne
      obtain ⟨S2, ls2, st2, p2, U2, tk2⟩ := y2
      obtain ⟨a2, l2, rfl⟩ := aO (l := ls2) hne.1
      obtain ⟨f2, t2, rfl⟩ := aO (l := tk2) hne.2
      subst hR
      refine gob ?_
      refine aB hd [0, 16, 2, 17, 4, 5, 6, 7, 8, 9, 10, 18] ?_ (hargs := by simp only [D.rens, Pure.ren]; rfl)
      refine aF [0, 1, 2, 3, 4, 5, 6, 7, 8, 9, 10, 11, 12, 19, 20, 21]
   ·-- nil cons
    exact absurd rfl (hy.both (by simp))
   ·-- cons nil
    refine gob ?_
    refine Br.split (fun h => ?_) (fun h => ?_)
    ·have hi2 : i < n := by have := of_decide_eq_true h; omega
     obtain ⟨⟨at', b⟩, hc⟩ : ∃ c, c = L.getD (o + i) (0, []) := ⟨_, rfl⟩
     have hnth : d9 (L.map (chD cz)) (o + Int.toNat (i : Int)) = .node [.i64 (at' : Nat), .fz b cz] := by rw [Int.toNat_natCast, dY (by omega), ← hc]; rfl
     obtain ⟨hb1, hb2⟩ : b.length < 100000 ∧ at' < 64 := hb (at', b) (by rw [hc]; exact bM (by omega))
     rw [d6 (by omega) hi2, ← hc, bF] at hR
     clear hc
     have q8 : Int.tmod (at' : Int) 8 = ((at' % 8 : Nat) : Int) := (Int.ofNat_tmod at' 8).symm
     refine gob ?_
     refine EffG.mk (And.intro ⟨trivial, by rw [hnth]; exact ⟨rfl, rfl, trivial⟩⟩ ?_)
     rw [hnth]
     refine gob ?_
     by_cases hU : U1 = T
     ·have hd := dA tag k1 k2 T ⟨S1, (a1 :: l1), st1, p1, U1, []⟩ b cz hT hU
      rw [dH, if_pos hU] at hR
      have hR : (_, rf0, 21) = R := hR
      subst hR
      refine aB hd [0, 16, 2, 17, 4, 5, 6, 7, 8, 9, 10, 18] ?_
      refine aF [0, 1, 2, 3, 4, 5, 6, 7, 8, 9, 10, 11, 12, 16, 17]
     ·by_cases hlen : b.length = 512
      ·rw [dH, if_neg hU, if_pos hlen] at hR
       have hd := iP tag k1 k2 hk1 hk2 T s0 _ b cz hlen ht hy hU hn hn2
       have hQl := aS (k1 := k1) k2 (bs := b) (o := 0) (q := 8 + TS.low T ⟨S1, (a1 :: l1), st1, p1, U1, []⟩) (p := 1) (by omega)
       have hzl := aI tag (nxt T ⟨S1, (a1 :: l1), st1, p1, U1, []⟩) (dG k1 k2 T ⟨S1, (a1 :: l1), st1, p1, U1, []⟩ b)
       dsimp only [dG] at hR hd hzl
       generalize cA k1 k2 b 0 (8 + TS.low T ⟨S1, (a1 :: l1), st1, p1, U1, []⟩) 1 = Q at hR hd hzl hQl
       have hy2 := hy.lay hU hQl
       have hg2 := hg.lay (T := T) Q
       have hR : bF tag k1 k2 T _ _ (x.set (at' % 8) (nxt T _, bG tag (nxt T _) Q)) = R := hR
       have hne : (TS.lay T ⟨S1, (a1 :: l1), st1, p1, U1, []⟩ Q).ls ≠ [] ∧ (TS.lay T ⟨S1, (a1 :: l1), st1, p1, U1, []⟩ Q).tk ≠ [] := ⟨by simp [TS.lay], by simp [TS.lay, TS.take]⟩
       generalize bG tag (nxt T ⟨S1, (a1 :: l1), st1, p1, U1, []⟩) Q = z at hR hd hzl
       generalize nxt T ⟨S1, (a1 :: l1), st1, p1, U1, []⟩ = nm at hR hd
       generalize TS.lay T ⟨S1, (a1 :: l1), st1, p1, U1, []⟩ Q = y2 at hR hd hy2 hg2 hne
       obtain ⟨S2, ls2, st2, p2, U2, tk2⟩ := y2
       obtain ⟨a2, l2, rfl⟩ := aO (l := ls2) hne.1
       obtain ⟨f2, t2, rfl⟩ := aO (l := tk2) hne.2
       have hxo2 := hxo.set (at' % 8) (r := (nm, z)) hzl
       have q9 : (Int.tmod (at' : Int) 8).toNat < x.length := by rw [q8, Int.toNat_natCast, hxo.len]; omega
       have q7 : (Int.tmod (at' : Int) 8).toNat = at' % 8 := by rw [q8, Int.toNat_natCast]
       refine aB hd [0, 16, 2, 17, 4, 5, 6, 7, 8, 9, 10, 18] ?_
       refine aQ (i + 1, _, x.set (at' % 8) (nm, z)) [0, 1, 2, 3, 4, 5, 6, 7, 8, 9, 10, 11, 12, 13, 14, 15, 20, 21, 22] (viewA (h3 := ?_)) ⟨show i + 1 ≤ n by omega, hy2, hg2, hxo2, hR⟩ (show n - (i + 1) < n - i by omega)
       (repeat' (first | exact trivial | refine And.intro ⟨_, rfl, rfl, ?_, id⟩ ?_ | refine And.intro ⟨_, rfl, rfl, ?_, fun _ => rfl⟩ ?_)) <;> first | rfl | exact (Pure.ren _).symm | exact (Pure.ren _).trans (Pure.ren _).symm | (rw [q7]; exact (congrArg D.node List.map_set.symm).trans (Pure.ren (d := ndD (x.set (at' % 8) (nm, z))) _).symm)
      ·rw [dH, if_neg hU, if_neg hlen] at hR
       have hd := cH tag k1 k2 T s0 _ b cz hlen (by omega) hy hU
       have hR : (TS.take T _, rf0, 2) = R := hR
       subst hR
       have hne : (TS.take T ⟨S1, (a1 :: l1), st1, p1, U1, []⟩).tk ≠ [] ∧ (TS.take T ⟨S1, (a1 :: l1), st1, p1, U1, []⟩).ls = (a1 :: l1) ∧ (TS.take T ⟨S1, (a1 :: l1), st1, p1, U1, []⟩).S = S1 ∧ (TS.take T ⟨S1, (a1 :: l1), st1, p1, U1, []⟩).st = st1 := ⟨by simp [TS.take], rfl, rfl, rfl⟩
       generalize TS.take T ⟨S1, (a1 :: l1), st1, p1, U1, []⟩ = y2 at hd hne ⊢
       obtain ⟨S2, ls2, st2, p2, U2, tk2⟩ := y2
       obtain ⟨hne, hl2, hS2, hst2⟩ := hne
       dsimp only at hl2 hS2 hst2
       subst hl2 hS2 hst2
       obtain ⟨f2, t2, rfl⟩ := aO (l := tk2) hne
       refine aB hd [0, 16, 2, 17, 4, 5, 6, 7, 8, 9, 10, 18] ?_
       refine aF [0, 1, 2, 3, 4, 5, 6, 7, 8, 9, 10, 11, 12, 16, 17, 20]
    ·have hi2 : i = n := by have := of_decide_eq_false h; omega
     have hnil : ((L.drop o).take n).drop i = [] := List.drop_eq_nil_of_le (by rw [List.length_take]; omega)
     rw [hnil, bF] at hR
     by_cases hU : U1 = T
     ·have hd := bB tag k1 k2 T ⟨S1, (a1 :: l1), st1, p1, U1, []⟩ x hxo hT hU
      rw [dC, if_pos hU] at hR
      have hR : (_, rf0, 21) = R := hR
      subst hR
      refine gob ?_
      refine aB hd [0, 16, 2, 17, 4, 5, 6, 7, 8, 9, 10, 18] ?_ (hargs := by simp only [D.rens, Pure.ren]; rfl)
      refine aF [0, 1, 2, 3, 4, 5, 6, 7, 8, 9, 10, 11, 12, 16, 17]
     ·rw [dC, if_neg hU] at hR
      have hd := dZ tag k1 k2 T s0 _ x hxo ht hy hU hn hn2
      have hzl := aH (ndB x)
      have hR : (TS.lay T _ (ndB x), (nxt T _, bH (ndB x)), 0) = R := hR
      have hne : (TS.lay T ⟨S1, (a1 :: l1), st1, p1, U1, []⟩ (ndB x)).ls ≠ [] ∧ (TS.lay T ⟨S1, (a1 :: l1), st1, p1, U1, []⟩ (ndB x)).tk ≠ [] := ⟨by simp [TS.lay], by simp [TS.lay, TS.take]⟩
      generalize bH (ndB x) = z at hR hd hzl
      generalize nxt T ⟨S1, (a1 :: l1), st1, p1, U1, []⟩ = nm at hR hd
      generalize TS.lay T ⟨S1, (a1 :: l1), st1, p1, U1, []⟩ (ndB x) = y2 at hR hd hne
      obtain ⟨S2, ls2, st2, p2, U2, tk2⟩ := y2
      obtain ⟨a2, l2, rfl⟩ := aO (l := ls2) hne.1
      obtain ⟨f2, t2, rfl⟩ := aO (l := tk2) hne.2
      subst hR
      refine gob ?_
      refine aB hd [0, 16, 2, 17, 4, 5, 6, 7, 8, 9, 10, 18] ?_ (hargs := by simp only [D.rens, Pure.ren]; rfl)
      refine aF [0, 1, 2, 3, 4, 5, 6, 7, 8, 9, 10, 11, 12, 19, 20, 21]
   ·-- cons cons
    refine gob ?_
    refine Br.split (fun h => ?_) (fun h => ?_)
    ·have hi2 : i < n := by have := of_decide_eq_true h; omega
     obtain ⟨⟨at', b⟩, hc⟩ : ∃ c, c = L.getD (o + i) (0, []) := ⟨_, rfl⟩
     have hnth : d9 (L.map (chD cz)) (o + Int.toNat (i : Int)) = .node [.i64 (at' : Nat), .fz b cz] := by rw [Int.toNat_natCast, dY (by omega), ← hc]; rfl
     obtain ⟨hb1, hb2⟩ : b.length < 100000 ∧ at' < 64 := hb (at', b) (by rw [hc]; exact bM (by omega))
     rw [d6 (by omega) hi2, ← hc, bF] at hR
     clear hc
     have q8 : Int.tmod (at' : Int) 8 = ((at' % 8 : Nat) : Int) := (Int.ofNat_tmod at' 8).symm
     refine gob ?_
     refine EffG.mk (And.intro ⟨trivial, by rw [hnth]; exact ⟨rfl, rfl, trivial⟩⟩ ?_)
     rw [hnth]
     refine gob ?_
     by_cases hU : U1 = T
     ·have hd := dA tag k1 k2 T ⟨S1, (a1 :: l1), st1, p1, U1, (f1 :: t1)⟩ b cz hT hU
      rw [dH, if_pos hU] at hR
      have hR : (_, rf0, 21) = R := hR
      subst hR
      refine aB hd [0, 16, 2, 17, 4, 5, 6, 7, 8, 9, 10, 18] ?_
      refine aF [0, 1, 2, 3, 4, 5, 6, 7, 8, 9, 10, 11, 12, 16, 17, 18]
     ·by_cases hlen : b.length = 512
      ·rw [dH, if_neg hU, if_pos hlen] at hR
       have hd := iP tag k1 k2 hk1 hk2 T s0 _ b cz hlen ht hy hU hn hn2
       have hQl := aS (k1 := k1) k2 (bs := b) (o := 0) (q := 8 + TS.low T ⟨S1, (a1 :: l1), st1, p1, U1, (f1 :: t1)⟩) (p := 1) (by omega)
       have hzl := aI tag (nxt T ⟨S1, (a1 :: l1), st1, p1, U1, (f1 :: t1)⟩) (dG k1 k2 T ⟨S1, (a1 :: l1), st1, p1, U1, (f1 :: t1)⟩ b)
       dsimp only [dG] at hR hd hzl
       generalize cA k1 k2 b 0 (8 + TS.low T ⟨S1, (a1 :: l1), st1, p1, U1, (f1 :: t1)⟩) 1 = Q at hR hd hzl hQl
       have hy2 := hy.lay hU hQl
       have hg2 := hg.lay (T := T) Q
       have hR : bF tag k1 k2 T _ _ (x.set (at' % 8) (nxt T _, bG tag (nxt T _) Q)) = R := hR
       have hne : (TS.lay T ⟨S1, (a1 :: l1), st1, p1, U1, (f1 :: t1)⟩ Q).ls ≠ [] ∧ (TS.lay T ⟨S1, (a1 :: l1), st1, p1, U1, (f1 :: t1)⟩ Q).tk ≠ [] := ⟨by simp [TS.lay], by simp [TS.lay, TS.take]⟩
       generalize bG tag (nxt T ⟨S1, (a1 :: l1), st1, p1, U1, (f1 :: t1)⟩) Q = z at hR hd hzl
       generalize nxt T ⟨S1, (a1 :: l1), st1, p1, U1, (f1 :: t1)⟩ = nm at hR hd
       generalize TS.lay T ⟨S1, (a1 :: l1), st1, p1, U1, (f1 :: t1)⟩ Q = y2 at hR hd hy2 hg2 hne
       obtain ⟨S2, ls2, st2, p2, U2, tk2⟩ := y2
       obtain ⟨a2, l2, rfl⟩ := aO (l := ls2) hne.1
       obtain ⟨f2, t2, rfl⟩ := aO (l := tk2) hne.2
       have hxo2 := hxo.set (at' % 8) (r := (nm, z)) hzl
       have q9 : (Int.tmod (at' : Int) 8).toNat < x.length := by rw [q8, Int.toNat_natCast, hxo.len]; omega
       have q7 : (Int.tmod (at' : Int) 8).toNat = at' % 8 := by rw [q8, Int.toNat_natCast]
       refine aB hd [0, 16, 2, 17, 4, 5, 6, 7, 8, 9, 10, 18] ?_
       refine aQ (i + 1, _, x.set (at' % 8) (nm, z)) [0, 1, 2, 3, 4, 5, 6, 7, 8, 9, 10, 11, 12, 13, 14, 15, 20, 21, 22] (viewA (h3 := ?_)) ⟨show i + 1 ≤ n by omega, hy2, hg2, hxo2, hR⟩ (show n - (i + 1) < n - i by omega)
       (repeat' (first | exact trivial | refine And.intro ⟨_, rfl, rfl, ?_, id⟩ ?_ | refine And.intro ⟨_, rfl, rfl, ?_, fun _ => rfl⟩ ?_)) <;> first | rfl | exact (Pure.ren _).symm | exact (Pure.ren _).trans (Pure.ren _).symm | (rw [q7]; exact (congrArg D.node List.map_set.symm).trans (Pure.ren (d := ndD (x.set (at' % 8) (nm, z))) _).symm)
      ·rw [dH, if_neg hU, if_neg hlen] at hR
       have hd := cH tag k1 k2 T s0 _ b cz hlen (by omega) hy hU
       have hR : (TS.take T _, rf0, 2) = R := hR
       subst hR
       have hne : (TS.take T ⟨S1, (a1 :: l1), st1, p1, U1, (f1 :: t1)⟩).tk ≠ [] ∧ (TS.take T ⟨S1, (a1 :: l1), st1, p1, U1, (f1 :: t1)⟩).ls = (a1 :: l1) ∧ (TS.take T ⟨S1, (a1 :: l1), st1, p1, U1, (f1 :: t1)⟩).S = S1 ∧ (TS.take T ⟨S1, (a1 :: l1), st1, p1, U1, (f1 :: t1)⟩).st = st1 := ⟨by simp [TS.take], rfl, rfl, rfl⟩
       generalize TS.take T ⟨S1, (a1 :: l1), st1, p1, U1, (f1 :: t1)⟩ = y2 at hd hne ⊢
       obtain ⟨S2, ls2, st2, p2, U2, tk2⟩ := y2
       obtain ⟨hne, hl2, hS2, hst2⟩ := hne
       dsimp only at hl2 hS2 hst2
       subst hl2 hS2 hst2
       obtain ⟨f2, t2, rfl⟩ := aO (l := tk2) hne
       refine aB hd [0, 16, 2, 17, 4, 5, 6, 7, 8, 9, 10, 18] ?_
       refine aF [0, 1, 2, 3, 4, 5, 6, 7, 8, 9, 10, 11, 12, 16, 17, 20]
    ·have hi2 : i = n := by have := of_decide_eq_false h; omega
     have hnil : ((L.drop o).take n).drop i = [] := List.drop_eq_nil_of_le (by rw [List.length_take]; omega)
     rw [hnil, bF] at hR
     by_cases hU : U1 = T
     ·have hd := bB tag k1 k2 T ⟨S1, (a1 :: l1), st1, p1, U1, (f1 :: t1)⟩ x hxo hT hU
      rw [dC, if_pos hU] at hR
      have hR : (_, rf0, 21) = R := hR
      subst hR
      refine gob ?_
      refine aB hd [0, 16, 2, 17, 4, 5, 6, 7, 8, 9, 10, 18] ?_ (hargs := by simp only [D.rens, Pure.ren]; rfl)
      refine aF [0, 1, 2, 3, 4, 5, 6, 7, 8, 9, 10, 11, 12, 16, 17, 18]
     ·rw [dC, if_neg hU] at hR
      have hd := dZ tag k1 k2 T s0 _ x hxo ht hy hU hn hn2
      have hzl := aH (ndB x)
      have hR : (TS.lay T _ (ndB x), (nxt T _, bH (ndB x)), 0) = R := hR
      have hne : (TS.lay T ⟨S1, (a1 :: l1), st1, p1, U1, (f1 :: t1)⟩ (ndB x)).ls ≠ [] ∧ (TS.lay T ⟨S1, (a1 :: l1), st1, p1, U1, (f1 :: t1)⟩ (ndB x)).tk ≠ [] := ⟨by simp [TS.lay], by simp [TS.lay, TS.take]⟩
      generalize bH (ndB x) = z at hR hd hzl
      generalize nxt T ⟨S1, (a1 :: l1), st1, p1, U1, (f1 :: t1)⟩ = nm at hR hd
      generalize TS.lay T ⟨S1, (a1 :: l1), st1, p1, U1, (f1 :: t1)⟩ (ndB x) = y2 at hR hd hne
      obtain ⟨S2, ls2, st2, p2, U2, tk2⟩ := y2
      obtain ⟨a2, l2, rfl⟩ := aO (l := ls2) hne.1
      obtain ⟨f2, t2, rfl⟩ := aO (l := tk2) hne.2
      subst hR
      refine gob ?_
      refine aB hd [0, 16, 2, 17, 4, 5, 6, 7, 8, 9, 10, 18] ?_ (hargs := by simp only [D.rens, Pure.ren]; rfl)
      refine aF [0, 1, 2, 3, 4, 5, 6, 7, 8, 9, 10, 11, 12, 19, 20, 21]
  ·-- nil cons
   exact absurd rfl (hbo (by simp))
  ·-- cons nil
   refine gob ?_
   refine e9 h1 [0, 1, 2, 3, 4, 5, 6, 7] (.tup [ndD x, .i64 0]) ?_ (hr := congrArg (fun d => D.tup [d, _]) (Pure.ren _))
   refine gob ?_
   refine EffG.mk (And.intro ⟨trivial, hxt⟩ ?_)
   refine gob ?_
   refine aT (Nat × TS × List Rf) (fun v => [(0, .ptr 10 []), (6, .ptr 14 []), (7, .i64 0), (8, .ptr 15 []), (27, .slice 12 [] o n cap), (28, .i64 (n : Nat)), (29, .i64 (v.1 : Nat))])
    (fun v => lyMg 16 17 18 tag k1 k2 T v.2.1 ++ [(12, some ⟨.row tCh, qR cz L, false⟩), (14, some ⟨lK, aA 0 (zB 32), true⟩), (15, some ⟨tNd, ndD v.2.2, true⟩)]) 19
    (fun v => v.1 ≤ n ∧ LOk T s0 v.2.1 ∧ Goes _ v.2.1 ∧ NdOk v.2.2 ∧ bF tag k1 k2 T (((L.drop o).take n).drop v.1) v.2.1 v.2.2 = R) (fun v => n - v.1) (0, _, x) [0, 1, 2, 3, 4, 5, 6, 7, 8, 9, 10, 11, 12, 13, 14, 15, 1, 3, 11] ⟨Nat.zero_le _, hs, hgo, hok, hR⟩ viewA ?_
   clear hR hs hgo hok hxt h1
   rintro ⟨i, y, x⟩ ⟨hi, hy, hg, hxo, hR⟩
   have hi : i ≤ n := hi
   have hy : LOk T s0 y := hy
   have hxo : NdOk x := hxo
   have hR : bF tag k1 k2 T (((L.drop o).take n).drop i) y x = R := hR
   obtain ⟨S1, ls1, st1, p1, U1, tk1⟩ := y
   have hyo := hy.ok
   rcases ls1 with _ | ⟨a1, l1⟩ <;> rcases tk1 with _ | ⟨f1, t1⟩
   ·-- nil nil
    exact absurd rfl (hg.ls (by simp))
   ·-- nil cons
    exact absurd rfl (hy.both (by simp))
   ·-- cons nil
    refine gob ?_
    refine Br.split (fun h => ?_) (fun h => ?_)
    ·have hi2 : i < n := by have := of_decide_eq_true h; omega
     obtain ⟨⟨at', b⟩, hc⟩ : ∃ c, c = L.getD (o + i) (0, []) := ⟨_, rfl⟩
     have hnth : d9 (L.map (chD cz)) (o + Int.toNat (i : Int)) = .node [.i64 (at' : Nat), .fz b cz] := by rw [Int.toNat_natCast, dY (by omega), ← hc]; rfl
     obtain ⟨hb1, hb2⟩ : b.length < 100000 ∧ at' < 64 := hb (at', b) (by rw [hc]; exact bM (by omega))
     rw [d6 (by omega) hi2, ← hc, bF] at hR
     clear hc
     have q8 : Int.tmod (at' : Int) 8 = ((at' % 8 : Nat) : Int) := (Int.ofNat_tmod at' 8).symm
     refine gob ?_
     refine EffG.mk (And.intro ⟨trivial, by rw [hnth]; exact ⟨rfl, rfl, trivial⟩⟩ ?_)
     rw [hnth]
     refine gob ?_
     by_cases hU : U1 = T
     ·have hd := dA tag k1 k2 T ⟨S1, (a1 :: l1), st1, p1, U1, []⟩ b cz hT hU
      rw [dH, if_pos hU] at hR
      have hR : (_, rf0, 21) = R := hR
      subst hR
      refine aB hd [0, 16, 2, 17, 4, 5, 6, 7, 8, 9, 10, 18] ?_
      refine aF [0, 1, 2, 3, 4, 5, 6, 7, 8, 9, 10, 11, 12, 16, 17]
     ·by_cases hlen : b.length = 512
      ·rw [dH, if_neg hU, if_pos hlen] at hR
       have hd := iP tag k1 k2 hk1 hk2 T s0 _ b cz hlen ht hy hU hn hn2
       have hQl := aS (k1 := k1) k2 (bs := b) (o := 0) (q := 8 + TS.low T ⟨S1, (a1 :: l1), st1, p1, U1, []⟩) (p := 1) (by omega)
       have hzl := aI tag (nxt T ⟨S1, (a1 :: l1), st1, p1, U1, []⟩) (dG k1 k2 T ⟨S1, (a1 :: l1), st1, p1, U1, []⟩ b)
       dsimp only [dG] at hR hd hzl
       generalize cA k1 k2 b 0 (8 + TS.low T ⟨S1, (a1 :: l1), st1, p1, U1, []⟩) 1 = Q at hR hd hzl hQl
       have hy2 := hy.lay hU hQl
       have hg2 := hg.lay (T := T) Q
       have hR : bF tag k1 k2 T _ _ (x.set (at' % 8) (nxt T _, bG tag (nxt T _) Q)) = R := hR
       have hne : (TS.lay T ⟨S1, (a1 :: l1), st1, p1, U1, []⟩ Q).ls ≠ [] ∧ (TS.lay T ⟨S1, (a1 :: l1), st1, p1, U1, []⟩ Q).tk ≠ [] := ⟨by simp [TS.lay], by simp [TS.lay, TS.take]⟩
       generalize bG tag (nxt T ⟨S1, (a1 :: l1), st1, p1, U1, []⟩) Q = z at hR hd hzl
       generalize nxt T ⟨S1, (a1 :: l1), st1, p1, U1, []⟩ = nm at hR hd
       generalize TS.lay T ⟨S1, (a1 :: l1), st1, p1, U1, []⟩ Q = y2 at hR hd hy2 hg2 hne
       obtain ⟨S2, ls2, st2, p2, U2, tk2⟩ := y2
       obtain ⟨a2, l2, rfl⟩ := aO (l := ls2) hne.1
       obtain ⟨f2, t2, rfl⟩ := aO (l := tk2) hne.2
       have hxo2 := hxo.set (at' % 8) (r := (nm, z)) hzl
       have q9 : (Int.tmod (at' : Int) 8).toNat < x.length := by rw [q8, Int.toNat_natCast, hxo.len]; omega
       have q7 : (Int.tmod (at' : Int) 8).toNat = at' % 8 := by rw [q8, Int.toNat_natCast]
       refine aB hd [0, 16, 2, 17, 4, 5, 6, 7, 8, 9, 10, 18] ?_
       refine aQ (i + 1, _, x.set (at' % 8) (nm, z)) [0, 1, 2, 3, 4, 5, 6, 7, 8, 9, 10, 11, 12, 13, 14, 15, 20, 21, 22] (viewA (h3 := ?_)) ⟨show i + 1 ≤ n by omega, hy2, hg2, hxo2, hR⟩ (show n - (i + 1) < n - i by omega)
       (repeat' (first | exact trivial | refine And.intro ⟨_, rfl, rfl, ?_, id⟩ ?_ | refine And.intro ⟨_, rfl, rfl, ?_, fun _ => rfl⟩ ?_)) <;> first | rfl | exact (Pure.ren _).symm | exact (Pure.ren _).trans (Pure.ren _).symm | (rw [q7]; exact (congrArg D.node List.map_set.symm).trans (Pure.ren (d := ndD (x.set (at' % 8) (nm, z))) _).symm)
      ·rw [dH, if_neg hU, if_neg hlen] at hR
       have hd := cH tag k1 k2 T s0 _ b cz hlen (by omega) hy hU
       have hR : (TS.take T _, rf0, 2) = R := hR
       subst hR
       have hne : (TS.take T ⟨S1, (a1 :: l1), st1, p1, U1, []⟩).tk ≠ [] ∧ (TS.take T ⟨S1, (a1 :: l1), st1, p1, U1, []⟩).ls = (a1 :: l1) ∧ (TS.take T ⟨S1, (a1 :: l1), st1, p1, U1, []⟩).S = S1 ∧ (TS.take T ⟨S1, (a1 :: l1), st1, p1, U1, []⟩).st = st1 := ⟨by simp [TS.take], rfl, rfl, rfl⟩
       generalize TS.take T ⟨S1, (a1 :: l1), st1, p1, U1, []⟩ = y2 at hd hne ⊢
       obtain ⟨S2, ls2, st2, p2, U2, tk2⟩ := y2
       obtain ⟨hne, hl2, hS2, hst2⟩ := hne
       dsimp only at hl2 hS2 hst2
       subst hl2 hS2 hst2
       obtain ⟨f2, t2, rfl⟩ := aO (l := tk2) hne
       refine aB hd [0, 16, 2, 17, 4, 5, 6, 7, 8, 9, 10, 18] ?_
       refine aF [0, 1, 2, 3, 4, 5, 6, 7, 8, 9, 10, 11, 12, 16, 17, 20]
    ·have hi2 : i = n := by have := of_decide_eq_false h; omega
     have hnil : ((L.drop o).take n).drop i = [] := List.drop_eq_nil_of_le (by rw [List.length_take]; omega)
     rw [hnil, bF] at hR
     by_cases hU : U1 = T
     ·have hd := bB tag k1 k2 T ⟨S1, (a1 :: l1), st1, p1, U1, []⟩ x hxo hT hU
      rw [dC, if_pos hU] at hR
      have hR : (_, rf0, 21) = R := hR
      subst hR
      refine gob ?_
      refine aB hd [0, 16, 2, 17, 4, 5, 6, 7, 8, 9, 10, 18] ?_ (hargs := by simp only [D.rens, Pure.ren]; rfl)
      refine aF [0, 1, 2, 3, 4, 5, 6, 7, 8, 9, 10, 11, 12, 16, 17]
     ·rw [dC, if_neg hU] at hR
      have hd := dZ tag k1 k2 T s0 _ x hxo ht hy hU hn hn2
      have hzl := aH (ndB x)
      have hR : (TS.lay T _ (ndB x), (nxt T _, bH (ndB x)), 0) = R := hR
      have hne : (TS.lay T ⟨S1, (a1 :: l1), st1, p1, U1, []⟩ (ndB x)).ls ≠ [] ∧ (TS.lay T ⟨S1, (a1 :: l1), st1, p1, U1, []⟩ (ndB x)).tk ≠ [] := ⟨by simp [TS.lay], by simp [TS.lay, TS.take]⟩
      generalize bH (ndB x) = z at hR hd hzl
      generalize nxt T ⟨S1, (a1 :: l1), st1, p1, U1, []⟩ = nm at hR hd
      generalize TS.lay T ⟨S1, (a1 :: l1), st1, p1, U1, []⟩ (ndB x) = y2 at hR hd hne
      obtain ⟨S2, ls2, st2, p2, U2, tk2⟩ := y2
      obtain ⟨a2, l2, rfl⟩ := aO (l := ls2) hne.1
      obtain ⟨f2, t2, rfl⟩ := aO (l := tk2) hne.2
      subst hR
      refine gob ?_
      refine aB hd [0, 16, 2, 17, 4, 5, 6, 7, 8, 9, 10, 18] ?_ (hargs := by simp only [D.rens, Pure.ren]; rfl)
      refine aF [0, 1, 2, 3, 4, 5, 6, 7, 8, 9, 10, 11, 12, 19, 20, 21]
   ·-- cons cons
    refine gob ?_
    refine Br.split (fun h => ?_) (fun h => ?_)
    ·have hi2 : i < n := by have := of_decide_eq_true h; omega
     obtain ⟨⟨at', b⟩, hc⟩ : ∃ c, c = L.getD (o + i) (0, []) := ⟨_, rfl⟩
     have hnth : d9 (L.map (chD cz)) (o + Int.toNat (i : Int)) = .node [.i64 (at' : Nat), .fz b cz] := by rw [Int.toNat_natCast, dY (by omega), ← hc]; rfl
     obtain ⟨hb1, hb2⟩ : b.length < 100000 ∧ at' < 64 := hb (at', b) (by rw [hc]; exact bM (by omega))
     rw [d6 (by omega) hi2, ← hc, bF] at hR
     clear hc
     have q8 : Int.tmod (at' : Int) 8 = ((at' % 8 : Nat) : Int) := (Int.ofNat_tmod at' 8).symm
     refine gob ?_
     refine EffG.mk (And.intro ⟨trivial, by rw [hnth]; exact ⟨rfl, rfl, trivial⟩⟩ ?_)
     rw [hnth]
     refine gob ?_
     by_cases hU : U1 = T
     ·have hd := dA tag k1 k2 T ⟨S1, (a1 :: l1), st1, p1, U1, (f1 :: t1)⟩ b cz hT hU
      rw [dH, if_pos hU] at hR
      have hR : (_, rf0, 21) = R := hR
      subst hR
      refine aB hd [0, 16, 2, 17, 4, 5, 6, 7, 8, 9, 10, 18] ?_
      refine aF [0, 1, 2, 3, 4, 5, 6, 7, 8, 9, 10, 11, 12, 16, 17, 18]
     ·by_cases hlen : b.length = 512
      ·rw [dH, if_neg hU, if_pos hlen] at hR
       have hd := iP tag k1 k2 hk1 hk2 T s0 _ b cz hlen ht hy hU hn hn2
       have hQl := aS (k1 := k1) k2 (bs := b) (o := 0) (q := 8 + TS.low T ⟨S1, (a1 :: l1), st1, p1, U1, (f1 :: t1)⟩) (p := 1) (by omega)
       have hzl := aI tag (nxt T ⟨S1, (a1 :: l1), st1, p1, U1, (f1 :: t1)⟩) (dG k1 k2 T ⟨S1, (a1 :: l1), st1, p1, U1, (f1 :: t1)⟩ b)
       dsimp only [dG] at hR hd hzl
       generalize cA k1 k2 b 0 (8 + TS.low T ⟨S1, (a1 :: l1), st1, p1, U1, (f1 :: t1)⟩) 1 = Q at hR hd hzl hQl
       have hy2 := hy.lay hU hQl
       have hg2 := hg.lay (T := T) Q
       have hR : bF tag k1 k2 T _ _ (x.set (at' % 8) (nxt T _, bG tag (nxt T _) Q)) = R := hR
       have hne : (TS.lay T ⟨S1, (a1 :: l1), st1, p1, U1, (f1 :: t1)⟩ Q).ls ≠ [] ∧ (TS.lay T ⟨S1, (a1 :: l1), st1, p1, U1, (f1 :: t1)⟩ Q).tk ≠ [] := ⟨by simp [TS.lay], by simp [TS.lay, TS.take]⟩
       generalize bG tag (nxt T ⟨S1, (a1 :: l1), st1, p1, U1, (f1 :: t1)⟩) Q = z at hR hd hzl
       generalize nxt T ⟨S1, (a1 :: l1), st1, p1, U1, (f1 :: t1)⟩ = nm at hR hd
       generalize TS.lay T ⟨S1, (a1 :: l1), st1, p1, U1, (f1 :: t1)⟩ Q = y2 at hR hd hy2 hg2 hne
       obtain ⟨S2, ls2, st2, p2, U2, tk2⟩ := y2
       obtain ⟨a2, l2, rfl⟩ := aO (l := ls2) hne.1
       obtain ⟨f2, t2, rfl⟩ := aO (l := tk2) hne.2
       have hxo2 := hxo.set (at' % 8) (r := (nm, z)) hzl
       have q9 : (Int.tmod (at' : Int) 8).toNat < x.length := by rw [q8, Int.toNat_natCast, hxo.len]; omega
       have q7 : (Int.tmod (at' : Int) 8).toNat = at' % 8 := by rw [q8, Int.toNat_natCast]
       refine aB hd [0, 16, 2, 17, 4, 5, 6, 7, 8, 9, 10, 18] ?_
       refine aQ (i + 1, _, x.set (at' % 8) (nm, z)) [0, 1, 2, 3, 4, 5, 6, 7, 8, 9, 10, 11, 12, 13, 14, 15, 20, 21, 22] (viewA (h3 := ?_)) ⟨show i + 1 ≤ n by omega, hy2, hg2, hxo2, hR⟩ (show n - (i + 1) < n - i by omega)
       (repeat' (first | exact trivial | refine And.intro ⟨_, rfl, rfl, ?_, id⟩ ?_ | refine And.intro ⟨_, rfl, rfl, ?_, fun _ => rfl⟩ ?_)) <;> first | rfl | exact (Pure.ren _).symm | exact (Pure.ren _).trans (Pure.ren _).symm | (rw [q7]; exact (congrArg D.node List.map_set.symm).trans (Pure.ren (d := ndD (x.set (at' % 8) (nm, z))) _).symm)
      ·rw [dH, if_neg hU, if_neg hlen] at hR
       have hd := cH tag k1 k2 T s0 _ b cz hlen (by omega) hy hU
       have hR : (TS.take T _, rf0, 2) = R := hR
       subst hR
       have hne : (TS.take T ⟨S1, (a1 :: l1), st1, p1, U1, (f1 :: t1)⟩).tk ≠ [] ∧ (TS.take T ⟨S1, (a1 :: l1), st1, p1, U1, (f1 :: t1)⟩).ls = (a1 :: l1) ∧ (TS.take T ⟨S1, (a1 :: l1), st1, p1, U1, (f1 :: t1)⟩).S = S1 ∧ (TS.take T ⟨S1, (a1 :: l1), st1, p1, U1, (f1 :: t1)⟩).st = st1 := ⟨by simp [TS.take], rfl, rfl, rfl⟩
       generalize TS.take T ⟨S1, (a1 :: l1), st1, p1, U1, (f1 :: t1)⟩ = y2 at hd hne ⊢
       obtain ⟨S2, ls2, st2, p2, U2, tk2⟩ := y2
       obtain ⟨hne, hl2, hS2, hst2⟩ := hne
       dsimp only at hl2 hS2 hst2
       subst hl2 hS2 hst2
       obtain ⟨f2, t2, rfl⟩ := aO (l := tk2) hne
       refine aB hd [0, 16, 2, 17, 4, 5, 6, 7, 8, 9, 10, 18] ?_
       refine aF [0, 1, 2, 3, 4, 5, 6, 7, 8, 9, 10, 11, 12, 16, 17, 20]
    ·have hi2 : i = n := by have := of_decide_eq_false h; omega
     have hnil : ((L.drop o).take n).drop i = [] := List.drop_eq_nil_of_le (by rw [List.length_take]; omega)
     rw [hnil, bF] at hR
     by_cases hU : U1 = T
     ·have hd := bB tag k1 k2 T ⟨S1, (a1 :: l1), st1, p1, U1, (f1 :: t1)⟩ x hxo hT hU
      rw [dC, if_pos hU] at hR
      have hR : (_, rf0, 21) = R := hR
      subst hR
      refine gob ?_
      refine aB hd [0, 16, 2, 17, 4, 5, 6, 7, 8, 9, 10, 18] ?_ (hargs := by simp only [D.rens, Pure.ren]; rfl)
      refine aF [0, 1, 2, 3, 4, 5, 6, 7, 8, 9, 10, 11, 12, 16, 17, 18]
     ·rw [dC, if_neg hU] at hR
      have hd := dZ tag k1 k2 T s0 _ x hxo ht hy hU hn hn2
      have hzl := aH (ndB x)
      have hR : (TS.lay T _ (ndB x), (nxt T _, bH (ndB x)), 0) = R := hR
      have hne : (TS.lay T ⟨S1, (a1 :: l1), st1, p1, U1, (f1 :: t1)⟩ (ndB x)).ls ≠ [] ∧ (TS.lay T ⟨S1, (a1 :: l1), st1, p1, U1, (f1 :: t1)⟩ (ndB x)).tk ≠ [] := ⟨by simp [TS.lay], by simp [TS.lay, TS.take]⟩
      generalize bH (ndB x) = z at hR hd hzl
      generalize nxt T ⟨S1, (a1 :: l1), st1, p1, U1, (f1 :: t1)⟩ = nm at hR hd
      generalize TS.lay T ⟨S1, (a1 :: l1), st1, p1, U1, (f1 :: t1)⟩ (ndB x) = y2 at hR hd hne
      obtain ⟨S2, ls2, st2, p2, U2, tk2⟩ := y2
      obtain ⟨a2, l2, rfl⟩ := aO (l := ls2) hne.1
      obtain ⟨f2, t2, rfl⟩ := aO (l := tk2) hne.2
      subst hR
      refine gob ?_
      refine aB hd [0, 16, 2, 17, 4, 5, 6, 7, 8, 9, 10, 18] ?_ (hargs := by simp only [D.rens, Pure.ren]; rfl)
      refine aF [0, 1, 2, 3, 4, 5, 6, 7, 8, 9, 10, 11, 12, 19, 20, 21]
  ·-- cons cons
   refine gob ?_
   refine e9 h1 [0, 1, 2, 3, 4, 5, 6, 7] (.tup [ndD x, .i64 0]) ?_ (hr := congrArg (fun d => D.tup [d, _]) (Pure.ren _))
   refine gob ?_
   refine EffG.mk (And.intro ⟨trivial, hxt⟩ ?_)
   refine gob ?_
   refine aT (Nat × TS × List Rf) (fun v => [(0, .ptr 10 []), (6, .ptr 14 []), (7, .i64 0), (8, .ptr 15 []), (27, .slice 12 [] o n cap), (28, .i64 (n : Nat)), (29, .i64 (v.1 : Nat))])
    (fun v => lyMg 16 17 18 tag k1 k2 T v.2.1 ++ [(12, some ⟨.row tCh, qR cz L, false⟩), (14, some ⟨lK, aA 0 (zB 32), true⟩), (15, some ⟨tNd, ndD v.2.2, true⟩)]) 19
    (fun v => v.1 ≤ n ∧ LOk T s0 v.2.1 ∧ Goes _ v.2.1 ∧ NdOk v.2.2 ∧ bF tag k1 k2 T (((L.drop o).take n).drop v.1) v.2.1 v.2.2 = R) (fun v => n - v.1) (0, _, x) [0, 1, 2, 3, 4, 5, 6, 7, 8, 9, 10, 11, 12, 13, 14, 15, 1, 3, 11] ⟨Nat.zero_le _, hs, hgo, hok, hR⟩ viewA ?_
   clear hR hs hgo hok hxt h1
   rintro ⟨i, y, x⟩ ⟨hi, hy, hg, hxo, hR⟩
   have hi : i ≤ n := hi
   have hy : LOk T s0 y := hy
   have hxo : NdOk x := hxo
   have hR : bF tag k1 k2 T (((L.drop o).take n).drop i) y x = R := hR
   obtain ⟨S1, ls1, st1, p1, U1, tk1⟩ := y
   have hyo := hy.ok
   rcases ls1 with _ | ⟨a1, l1⟩ <;> rcases tk1 with _ | ⟨f1, t1⟩
   ·-- nil nil
    exact absurd rfl (hg.ls (by simp))
   ·-- nil cons
    exact absurd rfl (hy.both (by simp))
   ·-- cons nil
    exact absurd rfl (hg.tk (by simp))
   ·-- cons cons
    refine gob ?_
    refine Br.split (fun h => ?_) (fun h => ?_)
    ·have hi2 : i < n := by have := of_decide_eq_true h; omega
     obtain ⟨⟨at', b⟩, hc⟩ : ∃ c, c = L.getD (o + i) (0, []) := ⟨_, rfl⟩
     have hnth : d9 (L.map (chD cz)) (o + Int.toNat (i : Int)) = .node [.i64 (at' : Nat), .fz b cz] := by rw [Int.toNat_natCast, dY (by omega), ← hc]; rfl
     obtain ⟨hb1, hb2⟩ : b.length < 100000 ∧ at' < 64 := hb (at', b) (by rw [hc]; exact bM (by omega))
     rw [d6 (by omega) hi2, ← hc, bF] at hR
     clear hc
     have q8 : Int.tmod (at' : Int) 8 = ((at' % 8 : Nat) : Int) := (Int.ofNat_tmod at' 8).symm
     refine gob ?_
     refine EffG.mk (And.intro ⟨trivial, by rw [hnth]; exact ⟨rfl, rfl, trivial⟩⟩ ?_)
     rw [hnth]
     refine gob ?_
     by_cases hU : U1 = T
     ·have hd := dA tag k1 k2 T ⟨S1, (a1 :: l1), st1, p1, U1, (f1 :: t1)⟩ b cz hT hU
      rw [dH, if_pos hU] at hR
      have hR : (_, rf0, 21) = R := hR
      subst hR
      refine aB hd [0, 16, 2, 17, 4, 5, 6, 7, 8, 9, 10, 18] ?_
      refine aF [0, 1, 2, 3, 4, 5, 6, 7, 8, 9, 10, 11, 12, 16, 17, 18]
     ·by_cases hlen : b.length = 512
      ·rw [dH, if_neg hU, if_pos hlen] at hR
       have hd := iP tag k1 k2 hk1 hk2 T s0 _ b cz hlen ht hy hU hn hn2
       have hQl := aS (k1 := k1) k2 (bs := b) (o := 0) (q := 8 + TS.low T ⟨S1, (a1 :: l1), st1, p1, U1, (f1 :: t1)⟩) (p := 1) (by omega)
       have hzl := aI tag (nxt T ⟨S1, (a1 :: l1), st1, p1, U1, (f1 :: t1)⟩) (dG k1 k2 T ⟨S1, (a1 :: l1), st1, p1, U1, (f1 :: t1)⟩ b)
       dsimp only [dG] at hR hd hzl
       generalize cA k1 k2 b 0 (8 + TS.low T ⟨S1, (a1 :: l1), st1, p1, U1, (f1 :: t1)⟩) 1 = Q at hR hd hzl hQl
       have hy2 := hy.lay hU hQl
       have hg2 := hg.lay (T := T) Q
       have hR : bF tag k1 k2 T _ _ (x.set (at' % 8) (nxt T _, bG tag (nxt T _) Q)) = R := hR
       have hne : (TS.lay T ⟨S1, (a1 :: l1), st1, p1, U1, (f1 :: t1)⟩ Q).ls ≠ [] ∧ (TS.lay T ⟨S1, (a1 :: l1), st1, p1, U1, (f1 :: t1)⟩ Q).tk ≠ [] := ⟨by simp [TS.lay], by simp [TS.lay, TS.take]⟩
       generalize bG tag (nxt T ⟨S1, (a1 :: l1), st1, p1, U1, (f1 :: t1)⟩) Q = z at hR hd hzl
       generalize nxt T ⟨S1, (a1 :: l1), st1, p1, U1, (f1 :: t1)⟩ = nm at hR hd
       generalize TS.lay T ⟨S1, (a1 :: l1), st1, p1, U1, (f1 :: t1)⟩ Q = y2 at hR hd hy2 hg2 hne
       obtain ⟨S2, ls2, st2, p2, U2, tk2⟩ := y2
       obtain ⟨a2, l2, rfl⟩ := aO (l := ls2) hne.1
       obtain ⟨f2, t2, rfl⟩ := aO (l := tk2) hne.2
       have hxo2 := hxo.set (at' % 8) (r := (nm, z)) hzl
       have q9 : (Int.tmod (at' : Int) 8).toNat < x.length := by rw [q8, Int.toNat_natCast, hxo.len]; omega
       have q7 : (Int.tmod (at' : Int) 8).toNat = at' % 8 := by rw [q8, Int.toNat_natCast]
       refine aB hd [0, 16, 2, 17, 4, 5, 6, 7, 8, 9, 10, 18] ?_
       refine aQ (i + 1, _, x.set (at' % 8) (nm, z)) [0, 1, 2, 3, 4, 5, 6, 7, 8, 9, 10, 11, 12, 13, 14, 15, 20, 21, 22] (viewA (h3 := ?_)) ⟨show i + 1 ≤ n by omega, hy2, hg2, hxo2, hR⟩ (show n - (i + 1) < n - i by omega)
       (repeat' (first | exact trivial | refine And.intro ⟨_, rfl, rfl, ?_, id⟩ ?_ | refine And.intro ⟨_, rfl, rfl, ?_, fun _ => rfl⟩ ?_)) <;> first | rfl | exact (Pure.ren _).symm | exact (Pure.ren _).trans (Pure.ren _).symm | (rw [q7]; exact (congrArg D.node List.map_set.symm).trans (Pure.ren (d := ndD (x.set (at' % 8) (nm, z))) _).symm)
      ·rw [dH, if_neg hU, if_neg hlen] at hR
       have hd := cH tag k1 k2 T s0 _ b cz hlen (by omega) hy hU
       have hR : (TS.take T _, rf0, 2) = R := hR
       subst hR
       have hne : (TS.take T ⟨S1, (a1 :: l1), st1, p1, U1, (f1 :: t1)⟩).tk ≠ [] ∧ (TS.take T ⟨S1, (a1 :: l1), st1, p1, U1, (f1 :: t1)⟩).ls = (a1 :: l1) ∧ (TS.take T ⟨S1, (a1 :: l1), st1, p1, U1, (f1 :: t1)⟩).S = S1 ∧ (TS.take T ⟨S1, (a1 :: l1), st1, p1, U1, (f1 :: t1)⟩).st = st1 := ⟨by simp [TS.take], rfl, rfl, rfl⟩
       generalize TS.take T ⟨S1, (a1 :: l1), st1, p1, U1, (f1 :: t1)⟩ = y2 at hd hne ⊢
       obtain ⟨S2, ls2, st2, p2, U2, tk2⟩ := y2
       obtain ⟨hne, hl2, hS2, hst2⟩ := hne
       dsimp only at hl2 hS2 hst2
       subst hl2 hS2 hst2
       obtain ⟨f2, t2, rfl⟩ := aO (l := tk2) hne
       refine aB hd [0, 16, 2, 17, 4, 5, 6, 7, 8, 9, 10, 18] ?_
       refine aF [0, 1, 2, 3, 4, 5, 6, 7, 8, 9, 10, 11, 12, 16, 17, 20]
    ·have hi2 : i = n := by have := of_decide_eq_false h; omega
     have hnil : ((L.drop o).take n).drop i = [] := List.drop_eq_nil_of_le (by rw [List.length_take]; omega)
     rw [hnil, bF] at hR
     by_cases hU : U1 = T
     ·have hd := bB tag k1 k2 T ⟨S1, (a1 :: l1), st1, p1, U1, (f1 :: t1)⟩ x hxo hT hU
      rw [dC, if_pos hU] at hR
      have hR : (_, rf0, 21) = R := hR
      subst hR
      refine gob ?_
      refine aB hd [0, 16, 2, 17, 4, 5, 6, 7, 8, 9, 10, 18] ?_ (hargs := by simp only [D.rens, Pure.ren]; rfl)
      refine aF [0, 1, 2, 3, 4, 5, 6, 7, 8, 9, 10, 11, 12, 16, 17, 18]
     ·rw [dC, if_neg hU] at hR
      have hd := dZ tag k1 k2 T s0 _ x hxo ht hy hU hn hn2
      have hzl := aH (ndB x)
      have hR : (TS.lay T _ (ndB x), (nxt T _, bH (ndB x)), 0) = R := hR
      have hne : (TS.lay T ⟨S1, (a1 :: l1), st1, p1, U1, (f1 :: t1)⟩ (ndB x)).ls ≠ [] ∧ (TS.lay T ⟨S1, (a1 :: l1), st1, p1, U1, (f1 :: t1)⟩ (ndB x)).tk ≠ [] := ⟨by simp [TS.lay], by simp [TS.lay, TS.take]⟩
      generalize bH (ndB x) = z at hR hd hzl
      generalize nxt T ⟨S1, (a1 :: l1), st1, p1, U1, (f1 :: t1)⟩ = nm at hR hd
      generalize TS.lay T ⟨S1, (a1 :: l1), st1, p1, U1, (f1 :: t1)⟩ (ndB x) = y2 at hR hd hne
      obtain ⟨S2, ls2, st2, p2, U2, tk2⟩ := y2
      obtain ⟨a2, l2, rfl⟩ := aO (l := ls2) hne.1
      obtain ⟨f2, t2, rfl⟩ := aO (l := tk2) hne.2
      subst hR
      refine gob ?_
      refine aB hd [0, 16, 2, 17, 4, 5, 6, 7, 8, 9, 10, 18] ?_ (hargs := by simp only [D.rens, Pure.ren]; rfl)
      refine aF [0, 1, 2, 3, 4, 5, 6, 7, 8, 9, 10, 11, 12, 19, 20, 21]
 ·rw [if_neg he]
  clear hs hei hok
  obtain ⟨S, ls, st, p, U, tk⟩ := s
  dsimp only at h1 ⊢
  cases ls <;> cases tk
  all_goals
   refine acA tab mix Tryz.func38 {} ?_
   refine gob ?_
   refine e9 h1 [0, 1, 2, 3, 4, 5, 6, 7] (.tup [ndD x, .i64 e]) ?_ (hr := congrArg (fun d => D.tup [d, _]) (Pure.ren _))
   refine gob ?_
   refine EffG.mk (And.intro ⟨trivial, hxt⟩ ?_)
   refine gob ?_
   refine Br.yes (by rw [decide_eq_false he]; rfl) ?_
   refine gob ?_
  ·refine aF [0, 1, 2, 3, 4, 5, 6, 7, 8, 9, 10, 11, 12, 1]
  ·refine aF [0, 1, 2, 3, 4, 5, 6, 7, 8, 9, 10, 11, 12, 1, 11]
  ·refine aF [0, 1, 2, 3, 4, 5, 6, 7, 8, 9, 10, 11, 12, 1, 3]
  ·refine aF [0, 1, 2, 3, 4, 5, 6, 7, 8, 9, 10, 11, 12, 1, 3, 11]
theorem aEM (p : Nat → Bool) (l : List Nat) (f : Nat) : vZ p (l ++ [f]) = iH (vZ p l) f false := by
 unfold vZ
 rw [List.foldl_append]
 rfl
abbrev clM (e : Int) (mk : D) (x : Nat) (T U : Nat) (p : Nat → Bool) (tk : List Nat) : Mem :=
 aCy 7 tk ++ [(0, some ⟨.cell, .i64 e, true⟩), (1, some ⟨lK, mk, true⟩), (2, some ⟨.cell, .ptr 4 [], true⟩), (3, some ⟨.cell, .ptr 5 [], true⟩), (4, some ⟨tLay, .node [.ptr x [], .ptr 5 [], takD 7 tk], true⟩),
  (5, some ⟨sK, .node [.i64 T, .i64 U, .slice 6 [] 0 ((T + 63) / 64) none], true⟩), (6, some ⟨.row .cell, qY p T, true⟩)]
theorem j2 :
  ACd Tryz.prog 37 [.ptr 0 [], .ptr 1 [], .ptr 2 [], .ptr 3 []] 4 [(0, some ⟨.cell, .i64 0, true⟩)] ⟨.tup [], [], []⟩ := by
 refine acdA tab mix Tryz.func37 {} ?_
 refine gob ?_
 refine aF [0, 1, 2, 3]
theorem fI (e : Int) (he : e ≠ 0) (he2 : inI e) (ma : BitVec 32) (ms : B8) (hms : ms.length = 32) (T U : Nat) (p : Nat → Bool) (tk : List Nat) (hnd : tk.Nodup) (hon : ∀ f ∈ tk, p f = true ∧ f < T) (hT : T ≤ 4096) (hU : U + tk.length ≤ T) :
  ACd Tryz.prog 37 [.ptr 0 [], .ptr 1 [], .ptr 2 [], .ptr 3 []] 9 (clM e (aA ma ms) 8 T (U + tk.length) p tk)
   ⟨.tup [], [(1, some (aA 0 (List.replicate 32 0))), (5, some (.node [.i64 T, .i64 (U : Nat), .slice 6 [] 0 ((T + 63) / 64) none])), (6, some (qY (vZ p tk) T))], []⟩ := by
 rcases tk with _ | ⟨f0, t0⟩
 ·refine acdA tab mix Tryz.func37 {} ?_
  refine go ?_
  refine Br.no (decide_eq_false he) ?_
  refine gob ?_
  refine aT Nat (fun i => [(0, .ptr 0 []), (1, .ptr 1 []), (2, .ptr 2 []), (3, .ptr 3 []), (12, .nilslice), (13, .i64 0), (14, .i64 0)])
   (fun i => clM e (aA 0 (List.replicate 32 0)) 8 T U p []) 9 (fun i => True) (fun i => 0) 0 [0, 1, 2, 3, 4, 5, 6, 7, 8] trivial viewA ?_
  intro i _
  refine gob ?_
  refine aF [0, 1, 2, 3, 4, 5, 6, 7, 8]
 ·have hlen : (f0 :: t0).length = t0.length + 1 := rfl
  obtain ⟨tk, htk⟩ : ∃ tk, tk = f0 :: t0 := ⟨_, rfl⟩
  have hm : aCy 7 (f0 :: t0) = [(7, some ⟨.row .cell, aCx tk, true⟩)] := by rw [htk]
  have ht : takD 7 (f0 :: t0) = .slice 7 [] 0 tk.length none := by rw [htk]; rfl
  unfold clM
  rw [hm, ht]
  rw [← htk] at hnd hon hU ⊢
  clear hm ht hlen
  refine acdA tab mix Tryz.func37 {} ?_
  refine go ?_
  refine Br.no (decide_eq_false he) ?_
  refine gob ?_
  refine aT Nat (fun i => [(0, .ptr 0 []), (1, .ptr 1 []), (2, .ptr 2 []), (3, .ptr 3 []), (12, .slice 7 [] 0 tk.length none), (13, .i64 (tk.length : Nat)), (14, .i64 (i : Nat))])
   (fun i => [(7, some ⟨.row .cell, aCx tk, true⟩), (0, some ⟨.cell, .i64 e, true⟩), (1, some ⟨lK, aA 0 (List.replicate 32 0), true⟩), (2, some ⟨.cell, .ptr 4 [], true⟩), (3, some ⟨.cell, .ptr 5 [], true⟩), (4, some ⟨tLay, .node [.ptr 8 [], .ptr 5 [], .slice 7 [] 0 tk.length none], true⟩),
    (5, some ⟨sK, .node [.i64 T, .i64 (U + (tk.length - i) : Nat), .slice 6 [] 0 ((T + 63) / 64) none], true⟩), (6, some ⟨.row .cell, qY (vZ p (tk.take i)) T, true⟩)]) 9 (fun i => i ≤ tk.length) (fun i => tk.length - i) 0 [0, 1, 2, 3, 4, 5, 6, 7, 8] (Nat.zero_le _) viewA ?_
  intro i hi
  have hi : i ≤ tk.length := hi
  refine gob ?_
  refine Br.split (fun h => ?_) (fun h => ?_)
  ·have hi2 : i < tk.length := by have := of_decide_eq_true h; omega
   obtain ⟨f, hf⟩ : ∃ f, tk[i] = f := ⟨_, rfl⟩
   have hfm : f ∈ tk := by rw [← hf]; exact List.getElem_mem hi2
   have hfT := hon f hfm
   have hget : (tk.map (BitVec.ofNat 32)).getD (0 + Int.toNat (i : Int)) 0 = BitVec.ofNat 32 f := by
    rw [Int.toNat_natCast, Nat.zero_add, List.getD_eq_getElem?_getD, List.getElem?_map, List.getElem?_eq_getElem hi2, hf]; rfl
   have htake : tk.take (i + 1) = tk.take i ++ [f] := by rw [List.take_succ_eq_append_getElem hi2, hf]
   have hnot : f ∉ tk.take i := by
    intro hm
    have := hnd.sublist (l₁ := tk.take (i + 1)) (List.take_sublist _ _)
    rw [htake, List.nodup_append] at this
    exact this.2.2 f hm f (by simp) rfl
   have hp : vZ p (tk.take i) f = true := by
    rw [mV, hfT.1]; simp [hnot]
   have hc := aCl (vZ p (tk.take i)) T (U + (tk.length - (i + 1))) f none hp hfT.2 (by omega) (by omega)
   rw [← aEM, ← htake, show U + (tk.length - (i + 1)) + 1 = U + (tk.length - i) by omega] at hc
   refine gob ?_
   rw [hget]
   refine gob ?_
   refine aB hc [5, 6] ?_
   exact aQ (i + 1) [0, 1, 2, 3, 4, 5, 6, 7, 8] viewA
  ·have hi2 : i = tk.length := by have := of_decide_eq_false h; omega
   subst hi2
   rw [List.take_length, Nat.sub_self, Nat.add_zero]
   refine gob ?_
   refine aF [0, 1, 2, 3, 4, 5, 6, 7, 8]
end Go.Proofs.YtllcgppffncafaaGreatDoor.Av
