import Derived.Test.YtodkhgofmgaafaaDoorM6
import Derived.Test.YtodkhgofmgaafaaDoorM4
import Derived.ProofKit
import Derived.OpenShut
import Derived.Lib.LaidU8
import Derived.Lay
import Derived.MakeChecks
import Derived.ChangeSlices
import Derived.ChangeSame
namespace Go.Proofs.YtodkhgofmgaafaaDoor.Av
open Go
set_option linter.all false
set_option maxRecDepth 3000

/-! a node, read: printed by gen_dwb.py -/
def badR (bs : List (BitVec 8)) (o : Nat) : Bool := decide (u4G bs o = 0) && !decide ((bs.drop (o + 4)).take 32 = zB 32)
def nodeG (bs : List (BitVec 8)) : D := (D.node [refD (u4G bs 0) ((bs.drop 4).take 32), refD (u4G bs 36) ((bs.drop 40).take 32), refD (u4G bs 72) ((bs.drop 76).take 32), refD (u4G bs 108) ((bs.drop 112).take 32), refD (u4G bs 144) ((bs.drop 148).take 32), refD (u4G bs 180) ((bs.drop 184).take 32), refD (u4G bs 216) ((bs.drop 220).take 32), refD (u4G bs 252) ((bs.drop 256).take 32)])
def badN (bs : List (BitVec 8)) : Bool := badR bs 0 || badR bs 36 || badR bs 72 || badR bs 108 || badR bs 144 || badR bs 180 || badR bs 216 || badR bs 252
def getN (bs : List (BitVec 8)) : D × Int := bif badN bs then (node0, 4) else (nodeG bs, 0)
def nodeI (bs : List (BitVec 8)) : Nat → D
  | 0 => (D.node [refD 0 (zB 32), refD 0 (zB 32), refD 0 (zB 32), refD 0 (zB 32), refD 0 (zB 32), refD 0 (zB 32), refD 0 (zB 32), refD 0 (zB 32)])
  | 1 => (D.node [refD (u4G bs 0) ((bs.drop 4).take 32), refD 0 (zB 32), refD 0 (zB 32), refD 0 (zB 32), refD 0 (zB 32), refD 0 (zB 32), refD 0 (zB 32), refD 0 (zB 32)])
  | 2 => (D.node [refD (u4G bs 0) ((bs.drop 4).take 32), refD (u4G bs 36) ((bs.drop 40).take 32), refD 0 (zB 32), refD 0 (zB 32), refD 0 (zB 32), refD 0 (zB 32), refD 0 (zB 32), refD 0 (zB 32)])
  | 3 => (D.node [refD (u4G bs 0) ((bs.drop 4).take 32), refD (u4G bs 36) ((bs.drop 40).take 32), refD (u4G bs 72) ((bs.drop 76).take 32), refD 0 (zB 32), refD 0 (zB 32), refD 0 (zB 32), refD 0 (zB 32), refD 0 (zB 32)])
  | 4 => (D.node [refD (u4G bs 0) ((bs.drop 4).take 32), refD (u4G bs 36) ((bs.drop 40).take 32), refD (u4G bs 72) ((bs.drop 76).take 32), refD (u4G bs 108) ((bs.drop 112).take 32), refD 0 (zB 32), refD 0 (zB 32), refD 0 (zB 32), refD 0 (zB 32)])
  | 5 => (D.node [refD (u4G bs 0) ((bs.drop 4).take 32), refD (u4G bs 36) ((bs.drop 40).take 32), refD (u4G bs 72) ((bs.drop 76).take 32), refD (u4G bs 108) ((bs.drop 112).take 32), refD (u4G bs 144) ((bs.drop 148).take 32), refD 0 (zB 32), refD 0 (zB 32), refD 0 (zB 32)])
  | 6 => (D.node [refD (u4G bs 0) ((bs.drop 4).take 32), refD (u4G bs 36) ((bs.drop 40).take 32), refD (u4G bs 72) ((bs.drop 76).take 32), refD (u4G bs 108) ((bs.drop 112).take 32), refD (u4G bs 144) ((bs.drop 148).take 32), refD (u4G bs 180) ((bs.drop 184).take 32), refD 0 (zB 32), refD 0 (zB 32)])
  | 7 => (D.node [refD (u4G bs 0) ((bs.drop 4).take 32), refD (u4G bs 36) ((bs.drop 40).take 32), refD (u4G bs 72) ((bs.drop 76).take 32), refD (u4G bs 108) ((bs.drop 112).take 32), refD (u4G bs 144) ((bs.drop 148).take 32), refD (u4G bs 180) ((bs.drop 184).take 32), refD (u4G bs 216) ((bs.drop 220).take 32), refD 0 (zB 32)])
  | _ => nodeG bs
theorem getN_bad {bs : List (BitVec 8)} {i : Nat} (hi : i < 8) (h : badR bs (36 * i) = true) : getN bs = (node0, 4) := by
  have : badN bs = true := by
    unfold badN
    have : i = 0 ∨ i = 1 ∨ i = 2 ∨ i = 3 ∨ i = 4 ∨ i = 5 ∨ i = 6 ∨ i = 7 := by omega
    rcases this with rfl | rfl | rfl | rfl | rfl | rfl | rfl | rfl <;> (have h' := h; simp only [Nat.mul_zero, Nat.mul_one, Nat.reduceMul] at h'; simp only [h', Bool.true_or, Bool.or_true])
  unfold getN; rw [this]; rfl
theorem getN_end {bs : List (BitVec 8)} (h : ∀ j, j < 8 → badR bs (36 * j) = false) : getN bs = (nodeG bs, 0) := by
  have : badN bs = false := by
    unfold badN
    have h0 := h 0 (by decide); have h1 := h 1 (by decide); have h2 := h 2 (by decide); have h3 := h 3 (by decide)
    have h4 := h 4 (by decide); have h5 := h 5 (by decide); have h6 := h 6 (by decide); have h7 := h 7 (by decide)
    simp only [Nat.mul_zero, Nat.mul_one, Nat.reduceMul] at h0 h1 h2 h3 h4 h5 h6 h7
    rw [h0, h1, h2, h3, h4, h5, h6, h7]; rfl
  unfold getN; rw [this]; rfl
theorem ref_eqb (a : BitVec 32) (s : List (BitVec 8)) : (refD a s).eqb (refD 0 (zB 32)) = (decide (a = 0) && decide (s = zB 32)) := by
  show (decide (a = 0) && (decide (s = zB 32) && true)) = _
  rw [Bool.and_true]
theorem win32 {l y : List (BitVec 8)} (hl : l.length = 32) (hy : y.length = 32) : l.take 0 ++ (y.drop 0).take 32 ++ l.drop (0 + 32) = y := by
  rw [List.take_zero, List.nil_append, Nat.zero_add, List.drop_of_length_le (l := l) (by omega), List.append_nil, List.drop_zero, List.take_of_length_le (by omega)]
theorem goodI {bs : List (BitVec 8)} {i : Nat} {R : D × Int} (hi : (∀ j, j < i → badR bs (36 * j) = false) ∧ badR bs (36 * i) = false) : ∀ j, j < i + 1 → badR bs (36 * j) = false := fun j hj => by
  rcases Nat.lt_or_eq_of_le (Nat.le_of_lt_succ hj) with h' | h'
  · exact hi.1 j h'
  · exact h' ▸ hi.2
abbrev tNd : Ty := .arr 8 tRef

set_option maxHeartbeats 4000000 in
theorem nget_ac (bs : List (BitVec 8)) (hb : 288 ≤ bs.length) :
    AC Tryd.prog 85 [.slice 0 [] 0 288 none] 1 [(0, some ⟨.row .cell, .u8s bs, false⟩)] ⟨.tup [(getN bs).1, .i64 (getN bs).2], [], []⟩ := by
  obtain ⟨R, hR⟩ : ∃ R, getN bs = R := ⟨_, rfl⟩
  rw [hR]
  have hr := readr_ac bs 0 288 none
  have e1 := rerr_ac bs 288 0 none
  have e2 := rleft_ac bs 288 0 none
  refine acA tab mix Tryd.func85 {} ?_
  repeat first | refine EffG.mk (obA ?_) | refine obA ?_ | refine chkA ?_ | refine brY ?_ | refine brN ?_
  refine callA hr [0] ?_
  repeat first | refine EffG.mk (obA ?_) | refine obA ?_ | refine chkA ?_ | refine brY ?_ | refine brN ?_
  refine loopG (Nat × D) (fun y => [(2, .ptr 1 []), (4, .ptr 2 []), (5, .ptr 3 []), (10, .i64 y.1)]) (fun y => [(0, some ⟨.row .cell, .u8s bs, false⟩), (1, some ⟨tNd, node0, true⟩), (2, some ⟨tNd, y.2, true⟩), (3, some ⟨tRd, .node [.slice 0 [] (36 * y.1) (288 - 36 * y.1) none, .i64 0], true⟩)]) 4
    (fun y => y.1 ≤ 8 ∧ y.2 = nodeI bs y.1 ∧ ∀ j, j < y.1 → badR bs (36 * j) = false) (fun y => 8 - y.1) (0, nodeI bs 0) [0, 1, 2, 3] ⟨Nat.zero_le _, rfl, fun j h => absurd h (Nat.not_lt_zero _)⟩ viewA ?_
  rintro ⟨i, d⟩ hI
  obtain ⟨hi, hd, hall⟩ := hI
  have hi : i ≤ 8 := hi
  have hd : d = nodeI bs i := hd
  have hall : ∀ j, j < i → badR bs (36 * j) = false := hall
  have : i = 0 ∨ i = 1 ∨ i = 2 ∨ i = 3 ∨ i = 4 ∨ i = 5 ∨ i = 6 ∨ i = 7 ∨ i = 8 := by omega
  rcases this with rfl | rfl | rfl | rfl | rfl | rfl | rfl | rfl | rfl
  · have c := ru32_ac bs 0 288 none (by decide) (by omega)
    have t := take_ac bs 4 32 284 none (by decide) (by omega) (by decide)
    subst hd
    have l : ((bs.drop 4).take 32).length = 32 := by rw [List.length_take, List.length_drop]; omega
    have hb : badR bs (36 * 0) = (decide (u4G bs 0 = 0) && !decide ((bs.drop 4).take 32 = zB 32)) := rfl
    have hx := getN_bad (bs := bs) (i := 0) (by decide)
    rw [hb, hR] at hx
    have hy : nodeI bs 1 = (D.node [refD (u4G bs 0) ((bs.drop 4).take 32), refD 0 (zB 32), refD 0 (zB 32), refD 0 (zB 32), refD 0 (zB 32), refD 0 (zB 32), refD 0 (zB 32), refD 0 (zB 32)]) := rfl
    skip
    generalize (bs.drop 4).take 32 = s at t l hb hx hy
    generalize u4G bs 0 = a at c hb hx hy
    repeat first | refine EffG.mk (obA ?_) | refine obA ?_ | refine chkA ?_ | refine brY ?_ | refine brN ?_
    refine callA c [0, 3] ?_
    iterate 2 (first | refine EffG.mk (obA ?_) | refine obA ?_ | refine chkA ?_)
    refine storeG (D.node [refD a (zB 32), refD 0 (zB 32), refD 0 (zB 32), refD 0 (zB 32), refD 0 (zB 32), refD 0 (zB 32), refD 0 (zB 32), refD 0 (zB 32)]) rfl rfl rfl rfl rfl rfl rfl rfl rfl ⟨(show 0 < 8 from by decide), trivial⟩ rfl ?_
    repeat first | refine EffG.mk (obA ?_) | refine obA ?_ | refine chkA ?_
    refine callA t [0, 3] ?_
    skip
    refine copyG (D.node [refD a s, refD 0 (zB 32), refD 0 (zB 32), refD 0 (zB 32), refD 0 (zB 32), refD 0 (zB 32), refD 0 (zB 32), refD 0 (zB 32)]) rfl rfl rfl rfl rfl rfl rfl rfl rfl rfl rfl rfl rfl rfl rfl (by decide) rfl rfl ?_ ⟨by omega, trivial⟩ ⟨(show 0 < 8 from by decide), (by decide : 0 + 32 ≤ (List.replicate 32 (0 : BitVec 8)).length), trivial⟩ ?_ ?_
    · exact congrArg (fun x => some (D.node [refD a x, refD 0 (zB 32), refD 0 (zB 32), refD 0 (zB 32), refD 0 (zB 32), refD 0 (zB 32), refD 0 (zB 32), refD 0 (zB 32)])) (win32 (l := zB 32) (y := s) rfl l)
    · show (List.take 32 (List.drop 0 s)).length = 32
      rw [List.drop_zero, List.length_take]; omega
    repeat first | refine EffG.mk (obA ?_) | refine obA ?_ | refine chkA ?_
    by_cases qa : a = 0
    · refine Br.yes (decide_eq_true qa) ?_
      by_cases qs : s = zB 32
      · subst qs
        subst qa
        repeat first | refine EffG.mk (obA ?_) | refine obA ?_ | refine chkA ?_ | refine brY ?_ | refine brN ?_
        refine nextA (1, (D.node [refD 0 (zB 32), refD 0 (zB 32), refD 0 (zB 32), refD 0 (zB 32), refD 0 (zB 32), refD 0 (zB 32), refD 0 (zB 32), refD 0 (zB 32)])) [0, 1, 2, 3] viewA (h1 := ⟨Nat.le_of_ble_eq_true rfl, hy.symm, goodI (R := R) ⟨hall, by rw [hb]; rfl⟩⟩) (h2 := (by decide : 8 - 1 < 8 - 0))
      · have hx := hx (by rw [decide_eq_true qa, decide_eq_false qs]; rfl)
        subst hx
        repeat first | refine EffG.mk (obA ?_) | refine obA ?_ | refine chkA ?_ | refine brY ?_ | refine brN ?_
        refine brY ?_ (h := by show (!((refD a s).eqb (refD 0 (zB 32)))) = true; rw [ref_eqb, decide_eq_false qs, Bool.and_false]; rfl)
        repeat first | refine EffG.mk (obA ?_) | refine obA ?_ | refine chkA ?_ | refine brY ?_ | refine brN ?_
        refine retA [0]
    · refine brN ?_ (decide_eq_false qa)
      repeat first | refine EffG.mk (obA ?_) | refine obA ?_ | refine chkA ?_ | refine brY ?_ | refine brN ?_
      refine nextA (1, (D.node [refD a s, refD 0 (zB 32), refD 0 (zB 32), refD 0 (zB 32), refD 0 (zB 32), refD 0 (zB 32), refD 0 (zB 32), refD 0 (zB 32)])) [0, 1, 2, 3] viewA (h1 := ⟨Nat.le_of_ble_eq_true rfl, hy.symm, goodI (R := R) ⟨hall, by rw [hb, decide_eq_false qa]; rfl⟩⟩) (h2 := (by decide : 8 - 1 < 8 - 0))
  · have c := ru32_ac bs 36 252 none (by decide) (by omega)
    have t := take_ac bs 40 32 248 none (by decide) (by omega) (by decide)
    subst hd
    have l : ((bs.drop 40).take 32).length = 32 := by rw [List.length_take, List.length_drop]; omega
    have hb : badR bs (36 * 1) = (decide (u4G bs 36 = 0) && !decide ((bs.drop 40).take 32 = zB 32)) := rfl
    have hx := getN_bad (bs := bs) (i := 1) (by decide)
    rw [hb, hR] at hx
    have hy : nodeI bs 2 = (D.node [refD (u4G bs 0) ((bs.drop 4).take 32), refD (u4G bs 36) ((bs.drop 40).take 32), refD 0 (zB 32), refD 0 (zB 32), refD 0 (zB 32), refD 0 (zB 32), refD 0 (zB 32), refD 0 (zB 32)]) := rfl
    skip
    generalize (bs.drop 40).take 32 = s at t l hb hx hy
    generalize u4G bs 36 = a at c hb hx hy
    repeat first | refine EffG.mk (obA ?_) | refine obA ?_ | refine chkA ?_ | refine brY ?_ | refine brN ?_
    refine callA c [0, 3] ?_
    iterate 2 (first | refine EffG.mk (obA ?_) | refine obA ?_ | refine chkA ?_)
    refine storeG (D.node [refD (u4G bs 0) ((bs.drop 4).take 32), refD a (zB 32), refD 0 (zB 32), refD 0 (zB 32), refD 0 (zB 32), refD 0 (zB 32), refD 0 (zB 32), refD 0 (zB 32)]) rfl rfl rfl rfl rfl rfl rfl rfl rfl ⟨(show 1 < 8 from by decide), trivial⟩ rfl ?_
    repeat first | refine EffG.mk (obA ?_) | refine obA ?_ | refine chkA ?_
    refine callA t [0, 3] ?_
    skip
    refine copyG (D.node [refD (u4G bs 0) ((bs.drop 4).take 32), refD a s, refD 0 (zB 32), refD 0 (zB 32), refD 0 (zB 32), refD 0 (zB 32), refD 0 (zB 32), refD 0 (zB 32)]) rfl rfl rfl rfl rfl rfl rfl rfl rfl rfl rfl rfl rfl rfl rfl (by decide) rfl rfl ?_ ⟨by omega, trivial⟩ ⟨(show 1 < 8 from by decide), (by decide : 0 + 32 ≤ (List.replicate 32 (0 : BitVec 8)).length), trivial⟩ ?_ ?_
    · exact congrArg (fun x => some (D.node [refD (u4G bs 0) ((bs.drop 4).take 32), refD a x, refD 0 (zB 32), refD 0 (zB 32), refD 0 (zB 32), refD 0 (zB 32), refD 0 (zB 32), refD 0 (zB 32)])) (win32 (l := zB 32) (y := s) rfl l)
    · show (List.take 32 (List.drop 0 s)).length = 32
      rw [List.drop_zero, List.length_take]; omega
    repeat first | refine EffG.mk (obA ?_) | refine obA ?_ | refine chkA ?_
    by_cases qa : a = 0
    · refine Br.yes (decide_eq_true qa) ?_
      by_cases qs : s = zB 32
      · subst qs
        subst qa
        repeat first | refine EffG.mk (obA ?_) | refine obA ?_ | refine chkA ?_ | refine brY ?_ | refine brN ?_
        refine nextA (2, (D.node [refD (u4G bs 0) ((bs.drop 4).take 32), refD 0 (zB 32), refD 0 (zB 32), refD 0 (zB 32), refD 0 (zB 32), refD 0 (zB 32), refD 0 (zB 32), refD 0 (zB 32)])) [0, 1, 2, 3] viewA (h1 := ⟨Nat.le_of_ble_eq_true rfl, hy.symm, goodI (R := R) ⟨hall, by rw [hb]; rfl⟩⟩) (h2 := (by decide : 8 - 2 < 8 - 1))
      · have hx := hx (by rw [decide_eq_true qa, decide_eq_false qs]; rfl)
        subst hx
        repeat first | refine EffG.mk (obA ?_) | refine obA ?_ | refine chkA ?_ | refine brY ?_ | refine brN ?_
        refine brY ?_ (h := by show (!((refD a s).eqb (refD 0 (zB 32)))) = true; rw [ref_eqb, decide_eq_false qs, Bool.and_false]; rfl)
        repeat first | refine EffG.mk (obA ?_) | refine obA ?_ | refine chkA ?_ | refine brY ?_ | refine brN ?_
        refine retA [0]
    · refine brN ?_ (decide_eq_false qa)
      repeat first | refine EffG.mk (obA ?_) | refine obA ?_ | refine chkA ?_ | refine brY ?_ | refine brN ?_
      refine nextA (2, (D.node [refD (u4G bs 0) ((bs.drop 4).take 32), refD a s, refD 0 (zB 32), refD 0 (zB 32), refD 0 (zB 32), refD 0 (zB 32), refD 0 (zB 32), refD 0 (zB 32)])) [0, 1, 2, 3] viewA (h1 := ⟨Nat.le_of_ble_eq_true rfl, hy.symm, goodI (R := R) ⟨hall, by rw [hb, decide_eq_false qa]; rfl⟩⟩) (h2 := (by decide : 8 - 2 < 8 - 1))
  · have c := ru32_ac bs 72 216 none (by decide) (by omega)
    have t := take_ac bs 76 32 212 none (by decide) (by omega) (by decide)
    subst hd
    have l : ((bs.drop 76).take 32).length = 32 := by rw [List.length_take, List.length_drop]; omega
    have hb : badR bs (36 * 2) = (decide (u4G bs 72 = 0) && !decide ((bs.drop 76).take 32 = zB 32)) := rfl
    have hx := getN_bad (bs := bs) (i := 2) (by decide)
    rw [hb, hR] at hx
    have hy : nodeI bs 3 = (D.node [refD (u4G bs 0) ((bs.drop 4).take 32), refD (u4G bs 36) ((bs.drop 40).take 32), refD (u4G bs 72) ((bs.drop 76).take 32), refD 0 (zB 32), refD 0 (zB 32), refD 0 (zB 32), refD 0 (zB 32), refD 0 (zB 32)]) := rfl
    skip
    generalize (bs.drop 76).take 32 = s at t l hb hx hy
    generalize u4G bs 72 = a at c hb hx hy
    repeat first | refine EffG.mk (obA ?_) | refine obA ?_ | refine chkA ?_ | refine brY ?_ | refine brN ?_
    refine callA c [0, 3] ?_
    iterate 2 (first | refine EffG.mk (obA ?_) | refine obA ?_ | refine chkA ?_)
    refine storeG (D.node [refD (u4G bs 0) ((bs.drop 4).take 32), refD (u4G bs 36) ((bs.drop 40).take 32), refD a (zB 32), refD 0 (zB 32), refD 0 (zB 32), refD 0 (zB 32), refD 0 (zB 32), refD 0 (zB 32)]) rfl rfl rfl rfl rfl rfl rfl rfl rfl ⟨(show 2 < 8 from by decide), trivial⟩ rfl ?_
    repeat first | refine EffG.mk (obA ?_) | refine obA ?_ | refine chkA ?_
    refine callA t [0, 3] ?_
    skip
    refine copyG (D.node [refD (u4G bs 0) ((bs.drop 4).take 32), refD (u4G bs 36) ((bs.drop 40).take 32), refD a s, refD 0 (zB 32), refD 0 (zB 32), refD 0 (zB 32), refD 0 (zB 32), refD 0 (zB 32)]) rfl rfl rfl rfl rfl rfl rfl rfl rfl rfl rfl rfl rfl rfl rfl (by decide) rfl rfl ?_ ⟨by omega, trivial⟩ ⟨(show 2 < 8 from by decide), (by decide : 0 + 32 ≤ (List.replicate 32 (0 : BitVec 8)).length), trivial⟩ ?_ ?_
    · exact congrArg (fun x => some (D.node [refD (u4G bs 0) ((bs.drop 4).take 32), refD (u4G bs 36) ((bs.drop 40).take 32), refD a x, refD 0 (zB 32), refD 0 (zB 32), refD 0 (zB 32), refD 0 (zB 32), refD 0 (zB 32)])) (win32 (l := zB 32) (y := s) rfl l)
    · show (List.take 32 (List.drop 0 s)).length = 32
      rw [List.drop_zero, List.length_take]; omega
    repeat first | refine EffG.mk (obA ?_) | refine obA ?_ | refine chkA ?_
    by_cases qa : a = 0
    · refine Br.yes (decide_eq_true qa) ?_
      by_cases qs : s = zB 32
      · subst qs
        subst qa
        repeat first | refine EffG.mk (obA ?_) | refine obA ?_ | refine chkA ?_ | refine brY ?_ | refine brN ?_
        refine nextA (3, (D.node [refD (u4G bs 0) ((bs.drop 4).take 32), refD (u4G bs 36) ((bs.drop 40).take 32), refD 0 (zB 32), refD 0 (zB 32), refD 0 (zB 32), refD 0 (zB 32), refD 0 (zB 32), refD 0 (zB 32)])) [0, 1, 2, 3] viewA (h1 := ⟨Nat.le_of_ble_eq_true rfl, hy.symm, goodI (R := R) ⟨hall, by rw [hb]; rfl⟩⟩) (h2 := (by decide : 8 - 3 < 8 - 2))
      · have hx := hx (by rw [decide_eq_true qa, decide_eq_false qs]; rfl)
        subst hx
        repeat first | refine EffG.mk (obA ?_) | refine obA ?_ | refine chkA ?_ | refine brY ?_ | refine brN ?_
        refine brY ?_ (h := by show (!((refD a s).eqb (refD 0 (zB 32)))) = true; rw [ref_eqb, decide_eq_false qs, Bool.and_false]; rfl)
        repeat first | refine EffG.mk (obA ?_) | refine obA ?_ | refine chkA ?_ | refine brY ?_ | refine brN ?_
        refine retA [0]
    · refine brN ?_ (decide_eq_false qa)
      repeat first | refine EffG.mk (obA ?_) | refine obA ?_ | refine chkA ?_ | refine brY ?_ | refine brN ?_
      refine nextA (3, (D.node [refD (u4G bs 0) ((bs.drop 4).take 32), refD (u4G bs 36) ((bs.drop 40).take 32), refD a s, refD 0 (zB 32), refD 0 (zB 32), refD 0 (zB 32), refD 0 (zB 32), refD 0 (zB 32)])) [0, 1, 2, 3] viewA (h1 := ⟨Nat.le_of_ble_eq_true rfl, hy.symm, goodI (R := R) ⟨hall, by rw [hb, decide_eq_false qa]; rfl⟩⟩) (h2 := (by decide : 8 - 3 < 8 - 2))
  · have c := ru32_ac bs 108 180 none (by decide) (by omega)
    have t := take_ac bs 112 32 176 none (by decide) (by omega) (by decide)
    subst hd
    have l : ((bs.drop 112).take 32).length = 32 := by rw [List.length_take, List.length_drop]; omega
    have hb : badR bs (36 * 3) = (decide (u4G bs 108 = 0) && !decide ((bs.drop 112).take 32 = zB 32)) := rfl
    have hx := getN_bad (bs := bs) (i := 3) (by decide)
    rw [hb, hR] at hx
    have hy : nodeI bs 4 = (D.node [refD (u4G bs 0) ((bs.drop 4).take 32), refD (u4G bs 36) ((bs.drop 40).take 32), refD (u4G bs 72) ((bs.drop 76).take 32), refD (u4G bs 108) ((bs.drop 112).take 32), refD 0 (zB 32), refD 0 (zB 32), refD 0 (zB 32), refD 0 (zB 32)]) := rfl
    skip
    generalize (bs.drop 112).take 32 = s at t l hb hx hy
    generalize u4G bs 108 = a at c hb hx hy
    repeat first | refine EffG.mk (obA ?_) | refine obA ?_ | refine chkA ?_ | refine brY ?_ | refine brN ?_
    refine callA c [0, 3] ?_
    iterate 2 (first | refine EffG.mk (obA ?_) | refine obA ?_ | refine chkA ?_)
    refine storeG (D.node [refD (u4G bs 0) ((bs.drop 4).take 32), refD (u4G bs 36) ((bs.drop 40).take 32), refD (u4G bs 72) ((bs.drop 76).take 32), refD a (zB 32), refD 0 (zB 32), refD 0 (zB 32), refD 0 (zB 32), refD 0 (zB 32)]) rfl rfl rfl rfl rfl rfl rfl rfl rfl ⟨(show 3 < 8 from by decide), trivial⟩ rfl ?_
    repeat first | refine EffG.mk (obA ?_) | refine obA ?_ | refine chkA ?_
    refine callA t [0, 3] ?_
    skip
    refine copyG (D.node [refD (u4G bs 0) ((bs.drop 4).take 32), refD (u4G bs 36) ((bs.drop 40).take 32), refD (u4G bs 72) ((bs.drop 76).take 32), refD a s, refD 0 (zB 32), refD 0 (zB 32), refD 0 (zB 32), refD 0 (zB 32)]) rfl rfl rfl rfl rfl rfl rfl rfl rfl rfl rfl rfl rfl rfl rfl (by decide) rfl rfl ?_ ⟨by omega, trivial⟩ ⟨(show 3 < 8 from by decide), (by decide : 0 + 32 ≤ (List.replicate 32 (0 : BitVec 8)).length), trivial⟩ ?_ ?_
    · exact congrArg (fun x => some (D.node [refD (u4G bs 0) ((bs.drop 4).take 32), refD (u4G bs 36) ((bs.drop 40).take 32), refD (u4G bs 72) ((bs.drop 76).take 32), refD a x, refD 0 (zB 32), refD 0 (zB 32), refD 0 (zB 32), refD 0 (zB 32)])) (win32 (l := zB 32) (y := s) rfl l)
    · show (List.take 32 (List.drop 0 s)).length = 32
      rw [List.drop_zero, List.length_take]; omega
    repeat first | refine EffG.mk (obA ?_) | refine obA ?_ | refine chkA ?_
    by_cases qa : a = 0
    · refine Br.yes (decide_eq_true qa) ?_
      by_cases qs : s = zB 32
      · subst qs
        subst qa
        repeat first | refine EffG.mk (obA ?_) | refine obA ?_ | refine chkA ?_ | refine brY ?_ | refine brN ?_
        refine nextA (4, (D.node [refD (u4G bs 0) ((bs.drop 4).take 32), refD (u4G bs 36) ((bs.drop 40).take 32), refD (u4G bs 72) ((bs.drop 76).take 32), refD 0 (zB 32), refD 0 (zB 32), refD 0 (zB 32), refD 0 (zB 32), refD 0 (zB 32)])) [0, 1, 2, 3] viewA (h1 := ⟨Nat.le_of_ble_eq_true rfl, hy.symm, goodI (R := R) ⟨hall, by rw [hb]; rfl⟩⟩) (h2 := (by decide : 8 - 4 < 8 - 3))
      · have hx := hx (by rw [decide_eq_true qa, decide_eq_false qs]; rfl)
        subst hx
        repeat first | refine EffG.mk (obA ?_) | refine obA ?_ | refine chkA ?_ | refine brY ?_ | refine brN ?_
        refine brY ?_ (h := by show (!((refD a s).eqb (refD 0 (zB 32)))) = true; rw [ref_eqb, decide_eq_false qs, Bool.and_false]; rfl)
        repeat first | refine EffG.mk (obA ?_) | refine obA ?_ | refine chkA ?_ | refine brY ?_ | refine brN ?_
        refine retA [0]
    · refine brN ?_ (decide_eq_false qa)
      repeat first | refine EffG.mk (obA ?_) | refine obA ?_ | refine chkA ?_ | refine brY ?_ | refine brN ?_
      refine nextA (4, (D.node [refD (u4G bs 0) ((bs.drop 4).take 32), refD (u4G bs 36) ((bs.drop 40).take 32), refD (u4G bs 72) ((bs.drop 76).take 32), refD a s, refD 0 (zB 32), refD 0 (zB 32), refD 0 (zB 32), refD 0 (zB 32)])) [0, 1, 2, 3] viewA (h1 := ⟨Nat.le_of_ble_eq_true rfl, hy.symm, goodI (R := R) ⟨hall, by rw [hb, decide_eq_false qa]; rfl⟩⟩) (h2 := (by decide : 8 - 4 < 8 - 3))
  · have c := ru32_ac bs 144 144 none (by decide) (by omega)
    have t := take_ac bs 148 32 140 none (by decide) (by omega) (by decide)
    subst hd
    have l : ((bs.drop 148).take 32).length = 32 := by rw [List.length_take, List.length_drop]; omega
    have hb : badR bs (36 * 4) = (decide (u4G bs 144 = 0) && !decide ((bs.drop 148).take 32 = zB 32)) := rfl
    have hx := getN_bad (bs := bs) (i := 4) (by decide)
    rw [hb, hR] at hx
    have hy : nodeI bs 5 = (D.node [refD (u4G bs 0) ((bs.drop 4).take 32), refD (u4G bs 36) ((bs.drop 40).take 32), refD (u4G bs 72) ((bs.drop 76).take 32), refD (u4G bs 108) ((bs.drop 112).take 32), refD (u4G bs 144) ((bs.drop 148).take 32), refD 0 (zB 32), refD 0 (zB 32), refD 0 (zB 32)]) := rfl
    skip
    generalize (bs.drop 148).take 32 = s at t l hb hx hy
    generalize u4G bs 144 = a at c hb hx hy
    repeat first | refine EffG.mk (obA ?_) | refine obA ?_ | refine chkA ?_ | refine brY ?_ | refine brN ?_
    refine callA c [0, 3] ?_
    iterate 2 (first | refine EffG.mk (obA ?_) | refine obA ?_ | refine chkA ?_)
    refine storeG (D.node [refD (u4G bs 0) ((bs.drop 4).take 32), refD (u4G bs 36) ((bs.drop 40).take 32), refD (u4G bs 72) ((bs.drop 76).take 32), refD (u4G bs 108) ((bs.drop 112).take 32), refD a (zB 32), refD 0 (zB 32), refD 0 (zB 32), refD 0 (zB 32)]) rfl rfl rfl rfl rfl rfl rfl rfl rfl ⟨(show 4 < 8 from by decide), trivial⟩ rfl ?_
    repeat first | refine EffG.mk (obA ?_) | refine obA ?_ | refine chkA ?_
    refine callA t [0, 3] ?_
    skip
    refine copyG (D.node [refD (u4G bs 0) ((bs.drop 4).take 32), refD (u4G bs 36) ((bs.drop 40).take 32), refD (u4G bs 72) ((bs.drop 76).take 32), refD (u4G bs 108) ((bs.drop 112).take 32), refD a s, refD 0 (zB 32), refD 0 (zB 32), refD 0 (zB 32)]) rfl rfl rfl rfl rfl rfl rfl rfl rfl rfl rfl rfl rfl rfl rfl (by decide) rfl rfl ?_ ⟨by omega, trivial⟩ ⟨(show 4 < 8 from by decide), (by decide : 0 + 32 ≤ (List.replicate 32 (0 : BitVec 8)).length), trivial⟩ ?_ ?_
    · exact congrArg (fun x => some (D.node [refD (u4G bs 0) ((bs.drop 4).take 32), refD (u4G bs 36) ((bs.drop 40).take 32), refD (u4G bs 72) ((bs.drop 76).take 32), refD (u4G bs 108) ((bs.drop 112).take 32), refD a x, refD 0 (zB 32), refD 0 (zB 32), refD 0 (zB 32)])) (win32 (l := zB 32) (y := s) rfl l)
    · show (List.take 32 (List.drop 0 s)).length = 32
      rw [List.drop_zero, List.length_take]; omega
    repeat first | refine EffG.mk (obA ?_) | refine obA ?_ | refine chkA ?_
    by_cases qa : a = 0
    · refine Br.yes (decide_eq_true qa) ?_
      by_cases qs : s = zB 32
      · subst qs
        subst qa
        repeat first | refine EffG.mk (obA ?_) | refine obA ?_ | refine chkA ?_ | refine brY ?_ | refine brN ?_
        refine nextA (5, (D.node [refD (u4G bs 0) ((bs.drop 4).take 32), refD (u4G bs 36) ((bs.drop 40).take 32), refD (u4G bs 72) ((bs.drop 76).take 32), refD (u4G bs 108) ((bs.drop 112).take 32), refD 0 (zB 32), refD 0 (zB 32), refD 0 (zB 32), refD 0 (zB 32)])) [0, 1, 2, 3] viewA (h1 := ⟨Nat.le_of_ble_eq_true rfl, hy.symm, goodI (R := R) ⟨hall, by rw [hb]; rfl⟩⟩) (h2 := (by decide : 8 - 5 < 8 - 4))
      · have hx := hx (by rw [decide_eq_true qa, decide_eq_false qs]; rfl)
        subst hx
        repeat first | refine EffG.mk (obA ?_) | refine obA ?_ | refine chkA ?_ | refine brY ?_ | refine brN ?_
        refine brY ?_ (h := by show (!((refD a s).eqb (refD 0 (zB 32)))) = true; rw [ref_eqb, decide_eq_false qs, Bool.and_false]; rfl)
        repeat first | refine EffG.mk (obA ?_) | refine obA ?_ | refine chkA ?_ | refine brY ?_ | refine brN ?_
        refine retA [0]
    · refine brN ?_ (decide_eq_false qa)
      repeat first | refine EffG.mk (obA ?_) | refine obA ?_ | refine chkA ?_ | refine brY ?_ | refine brN ?_
      refine nextA (5, (D.node [refD (u4G bs 0) ((bs.drop 4).take 32), refD (u4G bs 36) ((bs.drop 40).take 32), refD (u4G bs 72) ((bs.drop 76).take 32), refD (u4G bs 108) ((bs.drop 112).take 32), refD a s, refD 0 (zB 32), refD 0 (zB 32), refD 0 (zB 32)])) [0, 1, 2, 3] viewA (h1 := ⟨Nat.le_of_ble_eq_true rfl, hy.symm, goodI (R := R) ⟨hall, by rw [hb, decide_eq_false qa]; rfl⟩⟩) (h2 := (by decide : 8 - 5 < 8 - 4))
  · have c := ru32_ac bs 180 108 none (by decide) (by omega)
    have t := take_ac bs 184 32 104 none (by decide) (by omega) (by decide)
    subst hd
    have l : ((bs.drop 184).take 32).length = 32 := by rw [List.length_take, List.length_drop]; omega
    have hb : badR bs (36 * 5) = (decide (u4G bs 180 = 0) && !decide ((bs.drop 184).take 32 = zB 32)) := rfl
    have hx := getN_bad (bs := bs) (i := 5) (by decide)
    rw [hb, hR] at hx
    have hy : nodeI bs 6 = (D.node [refD (u4G bs 0) ((bs.drop 4).take 32), refD (u4G bs 36) ((bs.drop 40).take 32), refD (u4G bs 72) ((bs.drop 76).take 32), refD (u4G bs 108) ((bs.drop 112).take 32), refD (u4G bs 144) ((bs.drop 148).take 32), refD (u4G bs 180) ((bs.drop 184).take 32), refD 0 (zB 32), refD 0 (zB 32)]) := rfl
    skip
    generalize (bs.drop 184).take 32 = s at t l hb hx hy
    generalize u4G bs 180 = a at c hb hx hy
    repeat first | refine EffG.mk (obA ?_) | refine obA ?_ | refine chkA ?_ | refine brY ?_ | refine brN ?_
    refine callA c [0, 3] ?_
    iterate 2 (first | refine EffG.mk (obA ?_) | refine obA ?_ | refine chkA ?_)
    refine storeG (D.node [refD (u4G bs 0) ((bs.drop 4).take 32), refD (u4G bs 36) ((bs.drop 40).take 32), refD (u4G bs 72) ((bs.drop 76).take 32), refD (u4G bs 108) ((bs.drop 112).take 32), refD (u4G bs 144) ((bs.drop 148).take 32), refD a (zB 32), refD 0 (zB 32), refD 0 (zB 32)]) rfl rfl rfl rfl rfl rfl rfl rfl rfl ⟨(show 5 < 8 from by decide), trivial⟩ rfl ?_
    repeat first | refine EffG.mk (obA ?_) | refine obA ?_ | refine chkA ?_
    refine callA t [0, 3] ?_
    skip
    refine copyG (D.node [refD (u4G bs 0) ((bs.drop 4).take 32), refD (u4G bs 36) ((bs.drop 40).take 32), refD (u4G bs 72) ((bs.drop 76).take 32), refD (u4G bs 108) ((bs.drop 112).take 32), refD (u4G bs 144) ((bs.drop 148).take 32), refD a s, refD 0 (zB 32), refD 0 (zB 32)]) rfl rfl rfl rfl rfl rfl rfl rfl rfl rfl rfl rfl rfl rfl rfl (by decide) rfl rfl ?_ ⟨by omega, trivial⟩ ⟨(show 5 < 8 from by decide), (by decide : 0 + 32 ≤ (List.replicate 32 (0 : BitVec 8)).length), trivial⟩ ?_ ?_
    · exact congrArg (fun x => some (D.node [refD (u4G bs 0) ((bs.drop 4).take 32), refD (u4G bs 36) ((bs.drop 40).take 32), refD (u4G bs 72) ((bs.drop 76).take 32), refD (u4G bs 108) ((bs.drop 112).take 32), refD (u4G bs 144) ((bs.drop 148).take 32), refD a x, refD 0 (zB 32), refD 0 (zB 32)])) (win32 (l := zB 32) (y := s) rfl l)
    · show (List.take 32 (List.drop 0 s)).length = 32
      rw [List.drop_zero, List.length_take]; omega
    repeat first | refine EffG.mk (obA ?_) | refine obA ?_ | refine chkA ?_
    by_cases qa : a = 0
    · refine Br.yes (decide_eq_true qa) ?_
      by_cases qs : s = zB 32
      · subst qs
        subst qa
        repeat first | refine EffG.mk (obA ?_) | refine obA ?_ | refine chkA ?_ | refine brY ?_ | refine brN ?_
        refine nextA (6, (D.node [refD (u4G bs 0) ((bs.drop 4).take 32), refD (u4G bs 36) ((bs.drop 40).take 32), refD (u4G bs 72) ((bs.drop 76).take 32), refD (u4G bs 108) ((bs.drop 112).take 32), refD (u4G bs 144) ((bs.drop 148).take 32), refD 0 (zB 32), refD 0 (zB 32), refD 0 (zB 32)])) [0, 1, 2, 3] viewA (h1 := ⟨Nat.le_of_ble_eq_true rfl, hy.symm, goodI (R := R) ⟨hall, by rw [hb]; rfl⟩⟩) (h2 := (by decide : 8 - 6 < 8 - 5))
      · have hx := hx (by rw [decide_eq_true qa, decide_eq_false qs]; rfl)
        subst hx
        repeat first | refine EffG.mk (obA ?_) | refine obA ?_ | refine chkA ?_ | refine brY ?_ | refine brN ?_
        refine brY ?_ (h := by show (!((refD a s).eqb (refD 0 (zB 32)))) = true; rw [ref_eqb, decide_eq_false qs, Bool.and_false]; rfl)
        repeat first | refine EffG.mk (obA ?_) | refine obA ?_ | refine chkA ?_ | refine brY ?_ | refine brN ?_
        refine retA [0]
    · refine brN ?_ (decide_eq_false qa)
      repeat first | refine EffG.mk (obA ?_) | refine obA ?_ | refine chkA ?_ | refine brY ?_ | refine brN ?_
      refine nextA (6, (D.node [refD (u4G bs 0) ((bs.drop 4).take 32), refD (u4G bs 36) ((bs.drop 40).take 32), refD (u4G bs 72) ((bs.drop 76).take 32), refD (u4G bs 108) ((bs.drop 112).take 32), refD (u4G bs 144) ((bs.drop 148).take 32), refD a s, refD 0 (zB 32), refD 0 (zB 32)])) [0, 1, 2, 3] viewA (h1 := ⟨Nat.le_of_ble_eq_true rfl, hy.symm, goodI (R := R) ⟨hall, by rw [hb, decide_eq_false qa]; rfl⟩⟩) (h2 := (by decide : 8 - 6 < 8 - 5))
  · have c := ru32_ac bs 216 72 none (by decide) (by omega)
    have t := take_ac bs 220 32 68 none (by decide) (by omega) (by decide)
    subst hd
    have l : ((bs.drop 220).take 32).length = 32 := by rw [List.length_take, List.length_drop]; omega
    have hb : badR bs (36 * 6) = (decide (u4G bs 216 = 0) && !decide ((bs.drop 220).take 32 = zB 32)) := rfl
    have hx := getN_bad (bs := bs) (i := 6) (by decide)
    rw [hb, hR] at hx
    have hy : nodeI bs 7 = (D.node [refD (u4G bs 0) ((bs.drop 4).take 32), refD (u4G bs 36) ((bs.drop 40).take 32), refD (u4G bs 72) ((bs.drop 76).take 32), refD (u4G bs 108) ((bs.drop 112).take 32), refD (u4G bs 144) ((bs.drop 148).take 32), refD (u4G bs 180) ((bs.drop 184).take 32), refD (u4G bs 216) ((bs.drop 220).take 32), refD 0 (zB 32)]) := rfl
    skip
    generalize (bs.drop 220).take 32 = s at t l hb hx hy
    generalize u4G bs 216 = a at c hb hx hy
    repeat first | refine EffG.mk (obA ?_) | refine obA ?_ | refine chkA ?_ | refine brY ?_ | refine brN ?_
    refine callA c [0, 3] ?_
    iterate 2 (first | refine EffG.mk (obA ?_) | refine obA ?_ | refine chkA ?_)
    refine storeG (D.node [refD (u4G bs 0) ((bs.drop 4).take 32), refD (u4G bs 36) ((bs.drop 40).take 32), refD (u4G bs 72) ((bs.drop 76).take 32), refD (u4G bs 108) ((bs.drop 112).take 32), refD (u4G bs 144) ((bs.drop 148).take 32), refD (u4G bs 180) ((bs.drop 184).take 32), refD a (zB 32), refD 0 (zB 32)]) rfl rfl rfl rfl rfl rfl rfl rfl rfl ⟨(show 6 < 8 from by decide), trivial⟩ rfl ?_
    repeat first | refine EffG.mk (obA ?_) | refine obA ?_ | refine chkA ?_
    refine callA t [0, 3] ?_
    skip
    refine copyG (D.node [refD (u4G bs 0) ((bs.drop 4).take 32), refD (u4G bs 36) ((bs.drop 40).take 32), refD (u4G bs 72) ((bs.drop 76).take 32), refD (u4G bs 108) ((bs.drop 112).take 32), refD (u4G bs 144) ((bs.drop 148).take 32), refD (u4G bs 180) ((bs.drop 184).take 32), refD a s, refD 0 (zB 32)]) rfl rfl rfl rfl rfl rfl rfl rfl rfl rfl rfl rfl rfl rfl rfl (by decide) rfl rfl ?_ ⟨by omega, trivial⟩ ⟨(show 6 < 8 from by decide), (by decide : 0 + 32 ≤ (List.replicate 32 (0 : BitVec 8)).length), trivial⟩ ?_ ?_
    · exact congrArg (fun x => some (D.node [refD (u4G bs 0) ((bs.drop 4).take 32), refD (u4G bs 36) ((bs.drop 40).take 32), refD (u4G bs 72) ((bs.drop 76).take 32), refD (u4G bs 108) ((bs.drop 112).take 32), refD (u4G bs 144) ((bs.drop 148).take 32), refD (u4G bs 180) ((bs.drop 184).take 32), refD a x, refD 0 (zB 32)])) (win32 (l := zB 32) (y := s) rfl l)
    · show (List.take 32 (List.drop 0 s)).length = 32
      rw [List.drop_zero, List.length_take]; omega
    repeat first | refine EffG.mk (obA ?_) | refine obA ?_ | refine chkA ?_
    by_cases qa : a = 0
    · refine Br.yes (decide_eq_true qa) ?_
      by_cases qs : s = zB 32
      · subst qs
        subst qa
        repeat first | refine EffG.mk (obA ?_) | refine obA ?_ | refine chkA ?_ | refine brY ?_ | refine brN ?_
        refine nextA (7, (D.node [refD (u4G bs 0) ((bs.drop 4).take 32), refD (u4G bs 36) ((bs.drop 40).take 32), refD (u4G bs 72) ((bs.drop 76).take 32), refD (u4G bs 108) ((bs.drop 112).take 32), refD (u4G bs 144) ((bs.drop 148).take 32), refD (u4G bs 180) ((bs.drop 184).take 32), refD 0 (zB 32), refD 0 (zB 32)])) [0, 1, 2, 3] viewA (h1 := ⟨Nat.le_of_ble_eq_true rfl, hy.symm, goodI (R := R) ⟨hall, by rw [hb]; rfl⟩⟩) (h2 := (by decide : 8 - 7 < 8 - 6))
      · have hx := hx (by rw [decide_eq_true qa, decide_eq_false qs]; rfl)
        subst hx
        repeat first | refine EffG.mk (obA ?_) | refine obA ?_ | refine chkA ?_ | refine brY ?_ | refine brN ?_
        refine brY ?_ (h := by show (!((refD a s).eqb (refD 0 (zB 32)))) = true; rw [ref_eqb, decide_eq_false qs, Bool.and_false]; rfl)
        repeat first | refine EffG.mk (obA ?_) | refine obA ?_ | refine chkA ?_ | refine brY ?_ | refine brN ?_
        refine retA [0]
    · refine brN ?_ (decide_eq_false qa)
      repeat first | refine EffG.mk (obA ?_) | refine obA ?_ | refine chkA ?_ | refine brY ?_ | refine brN ?_
      refine nextA (7, (D.node [refD (u4G bs 0) ((bs.drop 4).take 32), refD (u4G bs 36) ((bs.drop 40).take 32), refD (u4G bs 72) ((bs.drop 76).take 32), refD (u4G bs 108) ((bs.drop 112).take 32), refD (u4G bs 144) ((bs.drop 148).take 32), refD (u4G bs 180) ((bs.drop 184).take 32), refD a s, refD 0 (zB 32)])) [0, 1, 2, 3] viewA (h1 := ⟨Nat.le_of_ble_eq_true rfl, hy.symm, goodI (R := R) ⟨hall, by rw [hb, decide_eq_false qa]; rfl⟩⟩) (h2 := (by decide : 8 - 7 < 8 - 6))
  · have c := ru32_ac bs 252 36 none (by decide) (by omega)
    have t := take_ac bs 256 32 32 none (by decide) (by omega) (by decide)
    subst hd
    have l : ((bs.drop 256).take 32).length = 32 := by rw [List.length_take, List.length_drop]; omega
    have hb : badR bs (36 * 7) = (decide (u4G bs 252 = 0) && !decide ((bs.drop 256).take 32 = zB 32)) := rfl
    have hx := getN_bad (bs := bs) (i := 7) (by decide)
    rw [hb, hR] at hx
    have hy : nodeI bs 8 = (D.node [refD (u4G bs 0) ((bs.drop 4).take 32), refD (u4G bs 36) ((bs.drop 40).take 32), refD (u4G bs 72) ((bs.drop 76).take 32), refD (u4G bs 108) ((bs.drop 112).take 32), refD (u4G bs 144) ((bs.drop 148).take 32), refD (u4G bs 180) ((bs.drop 184).take 32), refD (u4G bs 216) ((bs.drop 220).take 32), refD (u4G bs 252) ((bs.drop 256).take 32)]) := rfl
    skip
    generalize (bs.drop 256).take 32 = s at t l hb hx hy
    generalize u4G bs 252 = a at c hb hx hy
    repeat first | refine EffG.mk (obA ?_) | refine obA ?_ | refine chkA ?_ | refine brY ?_ | refine brN ?_
    refine callA c [0, 3] ?_
    iterate 2 (first | refine EffG.mk (obA ?_) | refine obA ?_ | refine chkA ?_)
    refine storeG (D.node [refD (u4G bs 0) ((bs.drop 4).take 32), refD (u4G bs 36) ((bs.drop 40).take 32), refD (u4G bs 72) ((bs.drop 76).take 32), refD (u4G bs 108) ((bs.drop 112).take 32), refD (u4G bs 144) ((bs.drop 148).take 32), refD (u4G bs 180) ((bs.drop 184).take 32), refD (u4G bs 216) ((bs.drop 220).take 32), refD a (zB 32)]) rfl rfl rfl rfl rfl rfl rfl rfl rfl ⟨(show 7 < 8 from by decide), trivial⟩ rfl ?_
    repeat first | refine EffG.mk (obA ?_) | refine obA ?_ | refine chkA ?_
    refine callA t [0, 3] ?_
    skip
    refine copyG (D.node [refD (u4G bs 0) ((bs.drop 4).take 32), refD (u4G bs 36) ((bs.drop 40).take 32), refD (u4G bs 72) ((bs.drop 76).take 32), refD (u4G bs 108) ((bs.drop 112).take 32), refD (u4G bs 144) ((bs.drop 148).take 32), refD (u4G bs 180) ((bs.drop 184).take 32), refD (u4G bs 216) ((bs.drop 220).take 32), refD a s]) rfl rfl rfl rfl rfl rfl rfl rfl rfl rfl rfl rfl rfl rfl rfl (by decide) rfl rfl ?_ ⟨by omega, trivial⟩ ⟨(show 7 < 8 from by decide), (by decide : 0 + 32 ≤ (List.replicate 32 (0 : BitVec 8)).length), trivial⟩ ?_ ?_
    · exact congrArg (fun x => some (D.node [refD (u4G bs 0) ((bs.drop 4).take 32), refD (u4G bs 36) ((bs.drop 40).take 32), refD (u4G bs 72) ((bs.drop 76).take 32), refD (u4G bs 108) ((bs.drop 112).take 32), refD (u4G bs 144) ((bs.drop 148).take 32), refD (u4G bs 180) ((bs.drop 184).take 32), refD (u4G bs 216) ((bs.drop 220).take 32), refD a x])) (win32 (l := zB 32) (y := s) rfl l)
    · show (List.take 32 (List.drop 0 s)).length = 32
      rw [List.drop_zero, List.length_take]; omega
    repeat first | refine EffG.mk (obA ?_) | refine obA ?_ | refine chkA ?_
    by_cases qa : a = 0
    · refine Br.yes (decide_eq_true qa) ?_
      by_cases qs : s = zB 32
      · subst qs
        subst qa
        repeat first | refine EffG.mk (obA ?_) | refine obA ?_ | refine chkA ?_ | refine brY ?_ | refine brN ?_
        refine nextA (8, (D.node [refD (u4G bs 0) ((bs.drop 4).take 32), refD (u4G bs 36) ((bs.drop 40).take 32), refD (u4G bs 72) ((bs.drop 76).take 32), refD (u4G bs 108) ((bs.drop 112).take 32), refD (u4G bs 144) ((bs.drop 148).take 32), refD (u4G bs 180) ((bs.drop 184).take 32), refD (u4G bs 216) ((bs.drop 220).take 32), refD 0 (zB 32)])) [0, 1, 2, 3] viewA (h1 := ⟨Nat.le_of_ble_eq_true rfl, hy.symm, goodI (R := R) ⟨hall, by rw [hb]; rfl⟩⟩) (h2 := (by decide : 8 - 8 < 8 - 7))
      · have hx := hx (by rw [decide_eq_true qa, decide_eq_false qs]; rfl)
        subst hx
        repeat first | refine EffG.mk (obA ?_) | refine obA ?_ | refine chkA ?_ | refine brY ?_ | refine brN ?_
        refine brY ?_ (h := by show (!((refD a s).eqb (refD 0 (zB 32)))) = true; rw [ref_eqb, decide_eq_false qs, Bool.and_false]; rfl)
        repeat first | refine EffG.mk (obA ?_) | refine obA ?_ | refine chkA ?_ | refine brY ?_ | refine brN ?_
        refine retA [0]
    · refine brN ?_ (decide_eq_false qa)
      repeat first | refine EffG.mk (obA ?_) | refine obA ?_ | refine chkA ?_ | refine brY ?_ | refine brN ?_
      refine nextA (8, (D.node [refD (u4G bs 0) ((bs.drop 4).take 32), refD (u4G bs 36) ((bs.drop 40).take 32), refD (u4G bs 72) ((bs.drop 76).take 32), refD (u4G bs 108) ((bs.drop 112).take 32), refD (u4G bs 144) ((bs.drop 148).take 32), refD (u4G bs 180) ((bs.drop 184).take 32), refD (u4G bs 216) ((bs.drop 220).take 32), refD a s])) [0, 1, 2, 3] viewA (h1 := ⟨Nat.le_of_ble_eq_true rfl, hy.symm, goodI (R := R) ⟨hall, by rw [hb, decide_eq_false qa]; rfl⟩⟩) (h2 := (by decide : 8 - 8 < 8 - 7))
  · subst hd
    have hx := getN_end hall
    rw [hR] at hx
    subst hx
    repeat first | refine EffG.mk (obA ?_) | refine obA ?_ | refine chkA ?_ | refine brY ?_ | refine brN ?_
    refine callA e1 [0, 3] ?_
    repeat first | refine EffG.mk (obA ?_) | refine obA ?_ | refine chkA ?_ | refine brY ?_ | refine brN ?_
    refine callA e2 [0, 3] ?_
    repeat first | refine EffG.mk (obA ?_) | refine obA ?_ | refine chkA ?_ | refine brY ?_ | refine brN ?_
    refine retA [0]
end Go.Proofs.YtodkhgofmgaafaaDoor.Av

namespace Go.Proofs.YtodkhgofmgaafaaDoor.Av
open Go
set_option linter.all false
set_option maxRecDepth 3000

/-! space.Node -/
/-- what a cluster that is whole says -/
def nodeR (Q : List (BitVec 8)) : D × Int := bif badN Q || !noughtB Q 288 224 then (node0, 40) else (nodeG Q, 0)
theorem nodeG_ex {Q : List (BitVec 8)} (h : 288 ≤ Q.length) : ∃ (a0 a1 a2 a3 a4 a5 a6 a7 : BitVec 32) (s0 s1 s2 s3 s4 s5 s6 s7 : List (BitVec 8)), nodeG Q = nodeD8 a0 a1 a2 a3 a4 a5 a6 a7 s0 s1 s2 s3 s4 s5 s6 s7 ∧ s0.length = 32 ∧ s1.length = 32 ∧ s2.length = 32 ∧ s3.length = 32 ∧ s4.length = 32 ∧ s5.length = 32 ∧ s6.length = 32 ∧ s7.length = 32 := by
  have l : ∀ o, o + 32 ≤ 288 → ((Q.drop o).take 32).length = 32 := fun o ho => by rw [List.length_take, List.length_drop]; omega
  exact ⟨_, _, _, _, _, _, _, _, _, _, _, _, _, _, _, _, rfl, l 4 (by decide), l 40 (by decide), l 76 (by decide), l 112 (by decide), l 148 (by decide), l 184 (by decide), l 220 (by decide), l 256 (by decide)⟩
theorem nput0_ac : AC Tryd.prog 78 [node0] 0 [] ⟨.slice 0 [] 0 288 none, [], [(.row .cell, .u8s (node8B 0 0 0 0 0 0 0 0 (zB 32) (zB 32) (zB 32) (zB 32) (zB 32) (zB 32) (zB 32) (zB 32)))]⟩ :=
  nput_ac 0 0 0 0 0 0 0 0 (zB 32) (zB 32) (zB 32) (zB 32) (zB 32) (zB 32) (zB 32) (zB 32) (by simp) (by simp) (by simp) (by simp) (by simp) (by simp) (by simp) (by simp)
set_option maxHeartbeats 4000000 in
theorem snode_ac (c : Nat) (tag : List (BitVec 8)) (k1 k2 : List (List (BitVec 8))) (most N : Nat) (cap : Option Nat) (N2 : Nat) (cap2 : Option Nat) (ls : List Lo) (st : Nat) (S : List (BitVec 8)) (a : BitVec 32) (r : List (BitVec 8))
    (hc : 1 ≤ c) (hc2 : c ≤ 64) (hr : r.length = 32) (hS : S.length = N) (ha0 : 1 ≤ a.toNat) (ha : a.toNat ≤ 65536) (hq : 512 * (8 + (a - 1).toNat) + 512 ≤ N) (hN : N < 70368744177664)
    (he : nodeF ((S.drop (512 * (8 + (a - 1).toNat))).take 512) = r) :
    AC Tryd.prog 40 [.ptr 4 [], refD a r] 8 (spM c tag k1 k2 most N cap N2 cap2 ls st S)
      ⟨.tup [(nodeR ((S.drop (512 * (8 + (a - 1).toNat))).take 512)).1, .i64 (nodeR ((S.drop (512 * (8 + (a - 1).toNat))).take 512)).2], [], []⟩ := by
  have hg := sget_ac 44 nodeF nodeF_length node_f c tag k1 k2 most N cap N2 cap2 ls st S a r hc hc2 hr hS ha0 ha hq hN he
  clear he
  have hQl : ((S.drop (512 * (8 + (a - 1).toNat))).take 512).length = 512 := by rw [List.length_take, List.length_drop]; omega
  generalize (S.drop (512 * (8 + (a - 1).toNat))).take 512 = Q at hg hQl ⊢
  have hp := nput0_ac
  generalize node8B 0 0 0 0 0 0 0 0 (zB 32) (zB 32) (zB 32) (zB 32) (zB 32) (zB 32) (zB 32) (zB 32) = Z at hp
  have hn := nget_ac Q (by omega)
  have hz := nought_ac Q 288 224 none (by omega) (by decide)
  unfold nodeR getN at *
  cases hb : badN Q with
  | true =>
    rw [hb] at hn
    simp only [Bool.true_or, cond_true] at hn ⊢
    refine acA tab mix Tryd.func40 {} ?_
    cases ls
    all_goals
      repeat first | refine EffG.mk (obA ?_) | refine obA ?_ | refine chkA ?_ | refine brY ?_ | refine brN ?_
      refine callA hg [0, 1, 2, 3, 4, 5, 6, 7] ?_
      repeat first | refine EffG.mk (obA ?_) | refine obA ?_ | refine chkA ?_ | refine brY ?_ | refine brN ?_
      refine callA hp [] ?_
      repeat first | refine EffG.mk (obA ?_) | refine obA ?_ | refine chkA ?_ | refine brY ?_ | refine brN ?_
      refine callA hn [10] ?_
      repeat first | refine EffG.mk (obA ?_) | refine obA ?_ | refine chkA ?_ | refine brY ?_ | refine brN ?_
      refine EffG.mk (And.intro ?_ ?_)
      · (repeat' (first | exact trivial | refine And.intro ?_ ?_)) <;> first | rfl | omega
      repeat first | refine EffG.mk (obA ?_) | refine obA ?_ | refine chkA ?_ | refine brY ?_ | refine brN ?_
      refine retA [0, 1, 2, 3, 4, 5, 6, 7]
  | false =>
    rw [hb] at hn
    simp only [Bool.false_or, cond_false] at hn ⊢
    cases hz0 : noughtB Q 288 224 with
    | true =>
      rw [hz0] at hz
      simp only [Bool.not_true, cond_false]
      obtain ⟨a0, a1, a2, a3, a4, a5, a6, a7, s0, s1, s2, s3, s4, s5, s6, s7, hG, l0, l1, l2, l3, l4, l5, l6, l7⟩ := nodeG_ex (Q := Q) (by omega)
      rw [hG] at hn ⊢
      refine acA tab mix Tryd.func40 {} ?_
      cases ls
      all_goals
        repeat first | refine EffG.mk (obA ?_) | refine obA ?_ | refine chkA ?_ | refine brY ?_ | refine brN ?_
        refine callA hg [0, 1, 2, 3, 4, 5, 6, 7] ?_
        repeat first | refine EffG.mk (obA ?_) | refine obA ?_ | refine chkA ?_ | refine brY ?_ | refine brN ?_
        refine callA hp [] ?_
        repeat first | refine EffG.mk (obA ?_) | refine obA ?_ | refine chkA ?_ | refine brY ?_ | refine brN ?_
        refine callA hn [10] ?_
        repeat first | refine EffG.mk (obA ?_) | refine obA ?_ | refine chkA ?_ | refine brY ?_ | refine brN ?_
        refine EffG.mk (And.intro ?_ ?_)
        · (repeat' (first | assumption | exact trivial | refine And.intro ?_ ?_)) <;> first | rfl | omega
        repeat first | refine EffG.mk (obA ?_) | refine obA ?_ | refine chkA ?_ | refine brY ?_ | refine brN ?_
        refine callA hz [10] ?_
        repeat first | refine EffG.mk (obA ?_) | refine obA ?_ | refine chkA ?_ | refine brY ?_ | refine brN ?_
        refine EffG.mk (And.intro ?_ ?_)
        · (repeat' (first | assumption | exact trivial | refine And.intro ?_ ?_)) <;> first | rfl | omega
        repeat first | refine EffG.mk (obA ?_) | refine obA ?_ | refine chkA ?_ | refine brY ?_ | refine brN ?_
        refine retA [0, 1, 2, 3, 4, 5, 6, 7]
    | false =>
      rw [hz0] at hz
      simp only [Bool.not_false, cond_true]
      obtain ⟨a0, a1, a2, a3, a4, a5, a6, a7, s0, s1, s2, s3, s4, s5, s6, s7, hG, l0, l1, l2, l3, l4, l5, l6, l7⟩ := nodeG_ex (Q := Q) (by omega)
      rw [hG] at hn
      refine acA tab mix Tryd.func40 {} ?_
      cases ls
      all_goals
        repeat first | refine EffG.mk (obA ?_) | refine obA ?_ | refine chkA ?_ | refine brY ?_ | refine brN ?_
        refine callA hg [0, 1, 2, 3, 4, 5, 6, 7] ?_
        repeat first | refine EffG.mk (obA ?_) | refine obA ?_ | refine chkA ?_ | refine brY ?_ | refine brN ?_
        refine callA hp [] ?_
        repeat first | refine EffG.mk (obA ?_) | refine obA ?_ | refine chkA ?_ | refine brY ?_ | refine brN ?_
        refine callA hn [10] ?_
        repeat first | refine EffG.mk (obA ?_) | refine obA ?_ | refine chkA ?_ | refine brY ?_ | refine brN ?_
        refine EffG.mk (And.intro ?_ ?_)
        · (repeat' (first | assumption | exact trivial | refine And.intro ?_ ?_)) <;> first | rfl | omega
        repeat first | refine EffG.mk (obA ?_) | refine obA ?_ | refine chkA ?_ | refine brY ?_ | refine brN ?_
        refine callA hz [10] ?_
        repeat first | refine EffG.mk (obA ?_) | refine obA ?_ | refine chkA ?_ | refine brY ?_ | refine brN ?_
        refine retA [0, 1, 2, 3, 4, 5, 6, 7]
end Go.Proofs.YtodkhgofmgaafaaDoor.Av

namespace Go.Proofs.YtodkhgofmgaafaaDoor.Av
open Go
set_option linter.all false
set_option maxRecDepth 3000

/-! SpaceBack: printed by gen_dwd.py -/
def dB (bs : List (BitVec 8)) (m : Nat) : List (BitVec 8) := List.take (0 + m) (List.take 0 ([] : List (BitVec 8)) ++ List.take m bs) ++ List.replicate (512 - (m : Int)).toNat 0
theorem dB_eq {bs : List (BitVec 8)} {m : Nat} (h : m ≤ 512) (h2 : m ≤ bs.length) : dB bs m = pad512 ((bs.drop 0).take m) := by
  unfold dB pad512
  rw [List.take_zero, List.nil_append, List.drop_zero, List.take_of_length_le (l := bs.take m) (by rw [List.length_take]; omega), List.length_take, Nat.min_eq_left h2, show (512 - (m : Int)).toNat = 512 - m by omega]
theorem dB_length {bs : List (BitVec 8)} {m : Nat} (h : m ≤ 512) (h2 : m ≤ bs.length) : (dB bs m).length = 512 := by
  rw [dB_eq h h2, pad512, List.length_append, List.length_replicate, List.length_take, List.length_drop]; omega
def dZ : List (BitVec 8) := List.take (0 + 0) (List.take 0 ([] : List (BitVec 8)) ++ List.replicate 0 0) ++ List.replicate ((512 : Int) - ((0 : Nat) : Int)).toNat 0
theorem dZ_eq : dZ = zB 512 := rfl
theorem dZ_length : dZ.length = 512 := rfl
theorem mod20_lt (n : BitVec 8) : ((n % 20#8).setWidth 32).toNat < 20 := by
  rw [BitVec.toNat_setWidth, BitVec.toNat_umod]
  have := Nat.mod_lt n.toNat (show 0 < (20#8).toNat by decide)
  have e : (20#8).toNat = 20 := rfl
  rw [e] at *
  exact Nat.lt_of_le_of_lt (Nat.mod_le _ _) this
theorem node7_length : (pad512 (node8B 0 0 7 0 0 0 0 0 (zB 32) (zB 32) (zB 32) (zB 32) (zB 32) (zB 32) (zB 32) (zB 32))).length = 512 := by
  rw [pad512, List.length_append, List.length_replicate, node8B_length rfl rfl rfl rfl rfl rfl rfl rfl]
theorem n7ty : hasTy tNd (nodeD8 0 0 7 0 0 0 0 0 (zB 32) (zB 32) (zB 32) (zB 32) (zB 32) (zB 32) (zB 32) (zB 32)) := ⟨rfl, ⟨rfl, rfl, trivial⟩, ⟨rfl, rfl, trivial⟩, ⟨rfl, rfl, trivial⟩, ⟨rfl, rfl, trivial⟩, ⟨rfl, rfl, trivial⟩, ⟨rfl, rfl, trivial⟩, ⟨rfl, rfl, trivial⟩, ⟨rfl, rfl, trivial⟩, trivial⟩
theorem node7_get : nodeR (pad512 (node8B 0 0 7 0 0 0 0 0 (zB 32) (zB 32) (zB 32) (zB 32) (zB 32) (zB 32) (zB 32) (zB 32))) = (nodeD8 0 0 7 0 0 0 0 0 (zB 32) (zB 32) (zB 32) (zB 32) (zB 32) (zB 32) (zB 32) (zB 32), 0) := by kernel_rfl
set_option maxHeartbeats 4000000 in
theorem sback_ac (K bs : List (BitVec 8)) (n0 n1 : BitVec 8) (k c : Nat) (hbs : bs.length = k) (hk : k ≤ 140737488355328) (hK : K.length = 32) (hn : ¬ ((n0 % 20#8).setWidth 32) = ((n1 % 20#8).setWidth 32)) :
    AC Tryd.prog 11 [.u8s K, .u8s [n0, n1], .slice 0 [] 0 k (some c)] 1 [(0, some ⟨.row .cell, .u8s bs, false⟩), gR] ⟨.bool true, [], []⟩ := by
  have hkk : (min (k : Int) 512).toNat ≤ 512 ∧ (min (k : Int) 512).toNat ≤ k := by omega
  have hb := begun_ac
  have hnw := snew_ac 8 K (by decide) (by decide) hK geo_ne
  have h1 := rows_sched (labF K oneS) (labF_length _ _)
  have h2 := rows_sched (labF K twoS) (labF_length _ _)
  have ht := labF_length K tagS
  generalize labF K tagS = tg at hnw ht
  generalize schedF (labF K oneS) = k1 at hnw h1
  generalize schedF (labF K twoS) = k2 at hnw h2
  have ha := mod20_lt n0
  have ho := mod20_lt n1
  have hL : (512 : Nat) = 0 + (min (k : Int) 512).toNat + (512 - ((min (k : Int) 512).toNat : Int)).toNat := by omega
  have hBl : (dB bs (min (k : Int) 512).toNat).length = 512 := dB_length hkk.1 (by omega)
  have hBP : (dB bs (min (k : Int) 512).toNat) = (pad512 ((bs.drop 0).take (min (k : Int) 512).toNat)) := dB_eq hkk.1 (by omega)
  have hPl : ((pad512 ((bs.drop 0).take (min (k : Int) 512).toNat))).length = 512 := by rw [← hBP]; exact hBl
  have hpd := sputdata_ac 8 tg k1 k2 32768 16384 none 16384 none [] 0 (zB 16384) ((n0 % 20#8).setWidth 32) (dB bs (min (k : Int) 512).toNat) 0 none h1 h2 (by decide) (by decide) ht (by simp) (by simp) (by omega) (by omega) (by omega) (by omega) (by decide) (by decide) (by decide) (by decide)
  have hQ := sealF_length (k1 := k1) k2 (o := 0) ((n0 % 20#8).setWidth 32) (Nat.le_of_eq (show 0 + 512 = _ from by rw [hBl]))
  have hop := open_seal (k1 := k1) k2 (o := 0) ((n0 % 20#8).setWidth 32) (Nat.le_of_eq (show 0 + 512 = _ from by rw [hBl]))
  rw [List.drop_zero, List.take_of_length_le (Nat.le_of_eq hBl)] at hop
  generalize sealF k1 k2 (dB bs (min (k : Int) 512).toNat) 0 ((n0 % 20#8).setWidth 32) = Q at hpd hQ hop
  have hy := leafF_length tg (((n0 % 20#8).setWidth 32) + 1) Q
  have hS1l : (layF (zB 16384) Q (512 * (8 + ((n0 % 20#8).setWidth 32).toNat))).length = 16384 := by rw [layF_length (by rw [hQ]; simp; omega)]; simp
  have hS1 : ((layF (zB 16384) Q (512 * (8 + ((n0 % 20#8).setWidth 32).toNat))).drop (512 * (8 + ((n0 % 20#8).setWidth 32).toNat))).take 512 = Q := by
    have := layF_at (S := zB 16384) (B := Q) (p := 512 * (8 + ((n0 % 20#8).setWidth 32).toNat)) (by rw [hQ]; simp; omega)
    rw [hQ] at this; exact this
  generalize layF (zB 16384) Q (512 * (8 + ((n0 % 20#8).setWidth 32).toNat)) = S1 at *
  have hpp := sputpage_ac 8 tg k1 k2 32768 16384 none 16384 none [loF S1 (8 + ((n0 % 20#8).setWidth 32).toNat)] 1 S1 ((n1 % 20#8).setWidth 32) bs 0 (min (k : Int) 512).toNat (some c) (by decide) (by decide) ht (by intro x hx; simp only [List.cons_append, List.nil_append, List.mem_cons, List.not_mem_nil, or_false] at hx; rcases hx with rfl <;> exact loB_length _ _ (by first | omega | (rw [hS3l]; decide) | (rw [hS4l]; decide))) hS1l (by omega) (by omega) (by omega) hkk.1 (by decide) (by decide) (by simp) (by decide)
  have hS2l : (layF S1 (pad512 ((bs.drop 0).take (min (k : Int) 512).toNat)) (512 * (8 + ((n1 % 20#8).setWidth 32).toNat))).length = 16384 := by rw [layF_length (by rw [hPl, hS1l]; omega), hS1l]
  have hne : ((n0 % 20#8).setWidth 32).toNat ≠ ((n1 % 20#8).setWidth 32).toNat := fun e => hn (BitVec.eq_of_toNat_eq e)
  have hS2 : ((layF S1 (pad512 ((bs.drop 0).take (min (k : Int) 512).toNat)) (512 * (8 + ((n1 % 20#8).setWidth 32).toNat))).drop (512 * (8 + ((n0 % 20#8).setWidth 32).toNat))).take 512 = Q := by
    rw [layF_off (by rw [hPl, hS1l]; omega) (by rw [hS1l]; omega) (by rw [hPl]; omega)]; exact hS1
  generalize layF S1 (pad512 ((bs.drop 0).take (min (k : Int) 512).toNat)) (512 * (8 + ((n1 % 20#8).setWidth 32).toNat)) = S2 at *
  have e1 : (((n0 % 20#8).setWidth 32) + 1) - 1 = ((n0 % 20#8).setWidth 32) := BitVec.add_sub_cancel _ _
  have e2 : (((n0 % 20#8).setWidth 32) + 1).toNat = ((n0 % 20#8).setWidth 32).toNat + 1 := by rw [BitVec.toNat_add]; show (((n0 % 20#8).setWidth 32).toNat + 1) % 2 ^ 32 = _; omega
  have hd := sdata_ac 8 tg k1 k2 32768 16384 none 16384 none ([loF S1 (8 + ((n0 % 20#8).setWidth 32).toNat)] ++ [loF S2 (8 + ((n1 % 20#8).setWidth 32).toNat)]) 2 S2 (((n0 % 20#8).setWidth 32) + 1) (leafF tg (((n0 % 20#8).setWidth 32) + 1) Q) h1 h2 (by decide) (by decide) ht hy hS2l (by omega) (by omega) (by rw [e1]; omega) (by decide) (by rw [e1, hS2])
  rw [e1, hS2, hop] at hd
  generalize leafF tg (((n0 % 20#8).setWidth 32) + 1) Q = y at hpd hd hy
  have hq := sputpage_ac 8 tg k1 k2 32768 16384 none 16384 none ([loF S1 (8 + ((n0 % 20#8).setWidth 32).toNat)] ++ [loF S2 (8 + ((n1 % 20#8).setWidth 32).toNat)]) 2 S2 20 bs 0 (min (k : Int) 512).toNat (some c) (by decide) (by decide) ht (by intro x hx; simp only [List.cons_append, List.nil_append, List.mem_cons, List.not_mem_nil, or_false] at hx; rcases hx with rfl | rfl <;> exact loB_length _ _ (by first | omega | (rw [hS3l]; decide) | (rw [hS4l]; decide))) hS2l (by decide) (by decide) (by omega) hkk.1 (by decide) (by decide) (by simp) (by decide)
  have hS3l : (layF S2 (pad512 ((bs.drop 0).take (min (k : Int) 512).toNat)) (512 * (8 + (20 : BitVec 32).toNat))).length = 16384 := by rw [layF_length (by rw [hPl, hS2l]; decide), hS2l]
  have hS3 : ((layF S2 (pad512 ((bs.drop 0).take (min (k : Int) 512).toNat)) (512 * (8 + (20 : BitVec 32).toNat))).drop (512 * (8 + (20 : BitVec 32).toNat))).take 512 = (pad512 ((bs.drop 0).take (min (k : Int) 512).toNat)) := by
    have := layF_at (S := S2) (B := (pad512 ((bs.drop 0).take (min (k : Int) 512).toNat))) (p := 512 * (8 + (20 : BitVec 32).toNat)) (by rw [hPl, hS2l]; decide)
    rw [hPl] at this; exact this
  generalize layF S2 (pad512 ((bs.drop 0).take (min (k : Int) 512).toNat)) (512 * (8 + (20 : BitVec 32).toNat)) = S3 at *
  have hyp := pageF_length (pad512 ((bs.drop 0).take (min (k : Int) 512).toNat))
  have hr := spage_ac 8 tg k1 k2 32768 16384 none 16384 none (([loF S1 (8 + ((n0 % 20#8).setWidth 32).toNat)] ++ [loF S2 (8 + ((n1 % 20#8).setWidth 32).toNat)]) ++ [loF S3 (8 + (20 : BitVec 32).toNat)]) 3 S3 21 (pageF (pad512 ((bs.drop 0).take (min (k : Int) 512).toNat))) (by decide) (by decide) hyp hS3l (by decide) (by decide) (by decide) (by decide) (by rw [show (21 : BitVec 32) - 1 = 20 from rfl, hS3])
  rw [show (21 : BitVec 32) - 1 = 20 from rfl, hS3] at hr
  have hy2 := hyp
  generalize pageF (pad512 ((bs.drop 0).take (min (k : Int) 512).toNat)) = yp at *
  have hm := sputnode_ac 8 tg k1 k2 32768 16384 none 16384 none (([loF S1 (8 + ((n0 % 20#8).setWidth 32).toNat)] ++ [loF S2 (8 + ((n1 % 20#8).setWidth 32).toNat)]) ++ [loF S3 (8 + (20 : BitVec 32).toNat)]) 3 S3 21 0 0 7 0 0 0 0 0 (zB 32) (zB 32) (zB 32) (zB 32) (zB 32) (zB 32) (zB 32) (zB 32) rfl rfl rfl rfl rfl rfl rfl rfl (by decide) (by decide) ht (by intro x hx; simp only [List.cons_append, List.nil_append, List.mem_cons, List.not_mem_nil, or_false] at hx; rcases hx with rfl | rfl | rfl <;> exact loB_length _ _ (by first | omega | (rw [hS3l]; decide) | (rw [hS4l]; decide))) hS3l (by decide) (by decide) (by decide) (by decide) (by simp) (by decide)
  have hZ := node7_get
  have hZl := node7_length
  generalize pad512 (node8B 0 0 7 0 0 0 0 0 (zB 32) (zB 32) (zB 32) (zB 32) (zB 32) (zB 32) (zB 32) (zB 32)) = Z at hm hZ hZl
  have hS4l : (layF S3 Z (512 * (8 + (21 : BitVec 32).toNat))).length = 16384 := by rw [layF_length (by rw [hZl, hS3l]; decide), hS3l]
  have hS4 : ((layF S3 Z (512 * (8 + (21 : BitVec 32).toNat))).drop (512 * (8 + (21 : BitVec 32).toNat))).take 512 = Z := by
    have := layF_at (S := S3) (B := Z) (p := 512 * (8 + (21 : BitVec 32).toNat)) (by rw [hZl, hS3l]; decide)
    rw [hZl] at this; exact this
  generalize layF S3 Z (512 * (8 + (21 : BitVec 32).toNat)) = S4 at *
  have hyn := nodeF_length Z
  have hg := snode_ac 8 tg k1 k2 32768 16384 none 16384 none ((([loF S1 (8 + ((n0 % 20#8).setWidth 32).toNat)] ++ [loF S2 (8 + ((n1 % 20#8).setWidth 32).toNat)]) ++ [loF S3 (8 + (20 : BitVec 32).toNat)]) ++ [loF S4 (8 + (21 : BitVec 32).toNat)]) 4 S4 22 (nodeF Z) (by decide) (by decide) hyn hS4l (by decide) (by decide) (by decide) (by decide) (by rw [show (22 : BitVec 32) - 1 = 21 from rfl, hS4])
  rw [show (22 : BitVec 32) - 1 = 21 from rfl, hS4, hZ] at hg
  generalize nodeF Z = yn at *
  have q1 : decide (List.take 512 (List.drop 0 (dB bs (min (k : Int) 512).toNat)) = List.take (0 + (min (k : Int) 512).toNat + (512 - ((min (k : Int) 512).toNat : Int)).toNat) (List.drop 0 (dB bs (min (k : Int) 512).toNat))) = true := decide_eq_true (by rw [← hL])
  have q2 : decide (List.take 512 (List.drop 0 (pad512 ((bs.drop 0).take (min (k : Int) 512).toNat))) = List.take (0 + (min (k : Int) 512).toNat + (512 - ((min (k : Int) 512).toNat : Int)).toNat) (List.drop 0 (dB bs (min (k : Int) 512).toNat))) = true := decide_eq_true (by rw [← hL, hBP])
  clear hop hQ ha ho e1 e2 h1 h2 ht
  clear hS1 hS1l hS3 hS3l hS4 hS4l hZ hZl hS2 hS2l hne hy2 hkk
  refine acA tab mix Tryd.func11 {} ?_
  repeat first | refine EffG.mk (obA ?_) | refine obA ?_ | refine chkA ?_
  refine ⟨0, ?_⟩
  repeat first | refine EffG.mk (obA ?_) | refine obA ?_ | refine chkA ?_
  refine ⟨0, ?_⟩
  repeat first | refine EffG.mk (obA ?_) | refine obA ?_ | refine chkA ?_
  refine callA hb [] ?_
  repeat first | refine EffG.mk (obA ?_) | refine obA ?_ | refine chkA ?_
  refine callA hnw [6] ?_
  repeat first | refine EffG.mk (obA ?_) | refine obA ?_ | refine chkA ?_
  refine callA hpd [6, 7, 8, 8, 9, 10, 11, 12, 5] ?_ (hargs := congrArg (fun l => [D.ptr 9 [], .u32 ((n0 % 20#8).setWidth 32), .slice 5 [] 0 l none]) hL.symm)
  repeat first | refine EffG.mk (obA ?_) | refine obA ?_ | refine chkA ?_ | refine brY ?_ | refine brN ?_
  refine Br.yes (show (!decide (((n0 % 20#8).setWidth 32) = ((n1 % 20#8).setWidth 32))) = true from by rw [decide_eq_false hn]; rfl) ?_
  repeat first | refine EffG.mk (obA ?_) | refine obA ?_ | refine chkA ?_ | refine brY ?_ | refine brN ?_
  refine callA hpp [6, 7, 8, 13, 9, 10, 11, 12, 0] ?_
  repeat first | refine EffG.mk (obA ?_) | refine obA ?_ | refine chkA ?_ | refine brY ?_ | refine brN ?_
  refine callA hd [6, 7, 8, 15, 9, 10, 11, 12] ?_
  repeat first | refine EffG.mk (obA ?_) | refine obA ?_ | refine chkA ?_ | refine brY ?_ | refine brN ?_
  refine callA hq [6, 7, 8, 15, 9, 10, 11, 12, 0] ?_
  repeat first | refine EffG.mk (obA ?_) | refine obA ?_ | refine chkA ?_ | refine brY ?_ | refine brN ?_
  refine callA hr [6, 7, 8, 18, 9, 10, 11, 12] ?_
  repeat first | refine EffG.mk (obA ?_) | refine obA ?_ | refine chkA ?_ | refine brY ?_ | refine brN ?_
  refine callA hm [6, 7, 8, 18, 9, 10, 11, 12] ?_
  repeat first | refine EffG.mk (obA ?_) | refine obA ?_ | refine chkA ?_ | refine brY ?_ | refine brN ?_
  refine callT hg [6, 7, 8, 21, 9, 10, 11, 12] (.tup [nodeD8 0 0 7 0 0 0 0 0 (zB 32) (zB 32) (zB 32) (zB 32) (zB 32) (zB 32) (zB 32) (zB 32), .i64 0]) ?_
  iterate 4 (first | refine EffG.mk (obA ?_) | refine obA ?_ | refine chkA ?_)
  refine storeG (nodeD8 0 0 7 0 0 0 0 0 (zB 32) (zB 32) (zB 32) (zB 32) (zB 32) (zB 32) (zB 32) (zB 32)) rfl rfl rfl rfl rfl rfl rfl rfl rfl trivial n7ty ?_
  repeat first | refine EffG.mk (obA ?_) | refine obA ?_ | refine chkA ?_ | refine brY ?_ | refine brN ?_
  refine Br.yes q1 ?_
  repeat first | refine EffG.mk (obA ?_) | refine obA ?_ | refine chkA ?_ | refine brY ?_ | refine brN ?_
  refine Br.yes q2 ?_
  repeat first | refine EffG.mk (obA ?_) | refine obA ?_ | refine chkA ?_ | refine brY ?_ | refine brN ?_
  refine callA awake16_ac [] ?_
  repeat first | refine EffG.mk (obA ?_) | refine obA ?_ | refine chkA ?_ | refine brY ?_ | refine brN ?_
  refine retA [0]
end Go.Proofs.YtodkhgofmgaafaaDoor.Av

namespace Go.Proofs.YtodkhgofmgaafaaDoor.Av
open Go
set_option linter.all false
set_option maxRecDepth 3000

/-! SpaceBack: printed by gen_dwd.py -/
set_option maxHeartbeats 4000000 in
theorem sback1_ac (K bs : List (BitVec 8)) (n0 n1 : BitVec 8) (k c : Nat) (hbs : bs.length = k) (hk : k ≤ 140737488355328) (hK : K.length = 32) (hn : ((n0 % 20#8).setWidth 32) = ((n1 % 20#8).setWidth 32)) :
    AC Tryd.prog 11 [.u8s K, .u8s [n0, n1], .slice 0 [] 0 k (some c)] 1 [(0, some ⟨.row .cell, .u8s bs, false⟩), gR] ⟨.bool true, [], []⟩ := by
  have hkk : (min (k : Int) 512).toNat ≤ 512 ∧ (min (k : Int) 512).toNat ≤ k := by omega
  have hb := begun_ac
  have hnw := snew_ac 8 K (by decide) (by decide) hK geo_ne
  have h1 := rows_sched (labF K oneS) (labF_length _ _)
  have h2 := rows_sched (labF K twoS) (labF_length _ _)
  have ht := labF_length K tagS
  generalize labF K tagS = tg at hnw ht
  generalize schedF (labF K oneS) = k1 at hnw h1
  generalize schedF (labF K twoS) = k2 at hnw h2
  have ha := mod20_lt n0
  have ho := mod20_lt n1
  have hL : (512 : Nat) = 0 + (min (k : Int) 512).toNat + (512 - ((min (k : Int) 512).toNat : Int)).toNat := by omega
  have hBl : (dB bs (min (k : Int) 512).toNat).length = 512 := dB_length hkk.1 (by omega)
  have hBP : (dB bs (min (k : Int) 512).toNat) = (pad512 ((bs.drop 0).take (min (k : Int) 512).toNat)) := dB_eq hkk.1 (by omega)
  have hPl : ((pad512 ((bs.drop 0).take (min (k : Int) 512).toNat))).length = 512 := by rw [← hBP]; exact hBl
  have hpd := sputdata_ac 8 tg k1 k2 32768 16384 none 16384 none [] 0 (zB 16384) ((n0 % 20#8).setWidth 32) (dB bs (min (k : Int) 512).toNat) 0 none h1 h2 (by decide) (by decide) ht (by simp) (by simp) (by omega) (by omega) (by omega) (by omega) (by decide) (by decide) (by decide) (by decide)
  have hQ := sealF_length (k1 := k1) k2 (o := 0) ((n0 % 20#8).setWidth 32) (Nat.le_of_eq (show 0 + 512 = _ from by rw [hBl]))
  have hop := open_seal (k1 := k1) k2 (o := 0) ((n0 % 20#8).setWidth 32) (Nat.le_of_eq (show 0 + 512 = _ from by rw [hBl]))
  rw [List.drop_zero, List.take_of_length_le (Nat.le_of_eq hBl)] at hop
  generalize sealF k1 k2 (dB bs (min (k : Int) 512).toNat) 0 ((n0 % 20#8).setWidth 32) = Q at hpd hQ hop
  have hy := leafF_length tg (((n0 % 20#8).setWidth 32) + 1) Q
  have hS1l : (layF (zB 16384) Q (512 * (8 + ((n0 % 20#8).setWidth 32).toNat))).length = 16384 := by rw [layF_length (by rw [hQ]; simp; omega)]; simp
  have hS1 : ((layF (zB 16384) Q (512 * (8 + ((n0 % 20#8).setWidth 32).toNat))).drop (512 * (8 + ((n0 % 20#8).setWidth 32).toNat))).take 512 = Q := by
    have := layF_at (S := zB 16384) (B := Q) (p := 512 * (8 + ((n0 % 20#8).setWidth 32).toNat)) (by rw [hQ]; simp; omega)
    rw [hQ] at this; exact this
  generalize layF (zB 16384) Q (512 * (8 + ((n0 % 20#8).setWidth 32).toNat)) = S1 at *
  have e1 : (((n0 % 20#8).setWidth 32) + 1) - 1 = ((n0 % 20#8).setWidth 32) := BitVec.add_sub_cancel _ _
  have e2 : (((n0 % 20#8).setWidth 32) + 1).toNat = ((n0 % 20#8).setWidth 32).toNat + 1 := by rw [BitVec.toNat_add]; show (((n0 % 20#8).setWidth 32).toNat + 1) % 2 ^ 32 = _; omega
  have hd := sdata_ac 8 tg k1 k2 32768 16384 none 16384 none [loF S1 (8 + ((n0 % 20#8).setWidth 32).toNat)] 1 S1 (((n0 % 20#8).setWidth 32) + 1) (leafF tg (((n0 % 20#8).setWidth 32) + 1) Q) h1 h2 (by decide) (by decide) ht hy hS1l (by omega) (by omega) (by rw [e1]; omega) (by decide) (by rw [e1, hS1])
  rw [e1, hS1, hop] at hd
  generalize leafF tg (((n0 % 20#8).setWidth 32) + 1) Q = y at hpd hd hy
  have hq := sputpage_ac 8 tg k1 k2 32768 16384 none 16384 none [loF S1 (8 + ((n0 % 20#8).setWidth 32).toNat)] 1 S1 20 bs 0 (min (k : Int) 512).toNat (some c) (by decide) (by decide) ht (by intro x hx; simp only [List.cons_append, List.nil_append, List.mem_cons, List.not_mem_nil, or_false] at hx; rcases hx with rfl <;> exact loB_length _ _ (by first | omega | (rw [hS3l]; decide) | (rw [hS4l]; decide))) hS1l (by decide) (by decide) (by omega) hkk.1 (by decide) (by decide) (by simp) (by decide)
  have hS3l : (layF S1 (pad512 ((bs.drop 0).take (min (k : Int) 512).toNat)) (512 * (8 + (20 : BitVec 32).toNat))).length = 16384 := by rw [layF_length (by rw [hPl, hS1l]; decide), hS1l]
  have hS3 : ((layF S1 (pad512 ((bs.drop 0).take (min (k : Int) 512).toNat)) (512 * (8 + (20 : BitVec 32).toNat))).drop (512 * (8 + (20 : BitVec 32).toNat))).take 512 = (pad512 ((bs.drop 0).take (min (k : Int) 512).toNat)) := by
    have := layF_at (S := S1) (B := (pad512 ((bs.drop 0).take (min (k : Int) 512).toNat))) (p := 512 * (8 + (20 : BitVec 32).toNat)) (by rw [hPl, hS1l]; decide)
    rw [hPl] at this; exact this
  generalize layF S1 (pad512 ((bs.drop 0).take (min (k : Int) 512).toNat)) (512 * (8 + (20 : BitVec 32).toNat)) = S3 at *
  have hyp := pageF_length (pad512 ((bs.drop 0).take (min (k : Int) 512).toNat))
  have hr := spage_ac 8 tg k1 k2 32768 16384 none 16384 none ([loF S1 (8 + ((n0 % 20#8).setWidth 32).toNat)] ++ [loF S3 (8 + (20 : BitVec 32).toNat)]) 2 S3 21 (pageF (pad512 ((bs.drop 0).take (min (k : Int) 512).toNat))) (by decide) (by decide) hyp hS3l (by decide) (by decide) (by decide) (by decide) (by rw [show (21 : BitVec 32) - 1 = 20 from rfl, hS3])
  rw [show (21 : BitVec 32) - 1 = 20 from rfl, hS3] at hr
  generalize pageF (pad512 ((bs.drop 0).take (min (k : Int) 512).toNat)) = yp at *
  have hm := sputnode_ac 8 tg k1 k2 32768 16384 none 16384 none ([loF S1 (8 + ((n0 % 20#8).setWidth 32).toNat)] ++ [loF S3 (8 + (20 : BitVec 32).toNat)]) 2 S3 21 0 0 7 0 0 0 0 0 (zB 32) (zB 32) (zB 32) (zB 32) (zB 32) (zB 32) (zB 32) (zB 32) rfl rfl rfl rfl rfl rfl rfl rfl (by decide) (by decide) ht (by intro x hx; simp only [List.cons_append, List.nil_append, List.mem_cons, List.not_mem_nil, or_false] at hx; rcases hx with rfl | rfl <;> exact loB_length _ _ (by first | omega | (rw [hS3l]; decide) | (rw [hS4l]; decide))) hS3l (by decide) (by decide) (by decide) (by decide) (by simp) (by decide)
  have hZ := node7_get
  have hZl := node7_length
  generalize pad512 (node8B 0 0 7 0 0 0 0 0 (zB 32) (zB 32) (zB 32) (zB 32) (zB 32) (zB 32) (zB 32) (zB 32)) = Z at hm hZ hZl
  have hS4l : (layF S3 Z (512 * (8 + (21 : BitVec 32).toNat))).length = 16384 := by rw [layF_length (by rw [hZl, hS3l]; decide), hS3l]
  have hS4 : ((layF S3 Z (512 * (8 + (21 : BitVec 32).toNat))).drop (512 * (8 + (21 : BitVec 32).toNat))).take 512 = Z := by
    have := layF_at (S := S3) (B := Z) (p := 512 * (8 + (21 : BitVec 32).toNat)) (by rw [hZl, hS3l]; decide)
    rw [hZl] at this; exact this
  generalize layF S3 Z (512 * (8 + (21 : BitVec 32).toNat)) = S4 at *
  have hyn := nodeF_length Z
  have hg := snode_ac 8 tg k1 k2 32768 16384 none 16384 none (([loF S1 (8 + ((n0 % 20#8).setWidth 32).toNat)] ++ [loF S3 (8 + (20 : BitVec 32).toNat)]) ++ [loF S4 (8 + (21 : BitVec 32).toNat)]) 3 S4 22 (nodeF Z) (by decide) (by decide) hyn hS4l (by decide) (by decide) (by decide) (by decide) (by rw [show (22 : BitVec 32) - 1 = 21 from rfl, hS4])
  rw [show (22 : BitVec 32) - 1 = 21 from rfl, hS4, hZ] at hg
  generalize nodeF Z = yn at *
  have q1 : decide (List.take 512 (List.drop 0 (dB bs (min (k : Int) 512).toNat)) = List.take (0 + (min (k : Int) 512).toNat + (512 - ((min (k : Int) 512).toNat : Int)).toNat) (List.drop 0 (dB bs (min (k : Int) 512).toNat))) = true := decide_eq_true (by rw [← hL])
  have q2 : decide (List.take 512 (List.drop 0 (pad512 ((bs.drop 0).take (min (k : Int) 512).toNat))) = List.take (0 + (min (k : Int) 512).toNat + (512 - ((min (k : Int) 512).toNat : Int)).toNat) (List.drop 0 (dB bs (min (k : Int) 512).toNat))) = true := decide_eq_true (by rw [← hL, hBP])
  clear hop hQ ha ho e1 e2 h1 h2 ht
  clear hS1 hS1l hS3 hS3l hS4 hS4l hZ hZl hkk
  refine acA tab mix Tryd.func11 {} ?_
  repeat first | refine EffG.mk (obA ?_) | refine obA ?_ | refine chkA ?_
  refine ⟨0, ?_⟩
  repeat first | refine EffG.mk (obA ?_) | refine obA ?_ | refine chkA ?_
  refine ⟨0, ?_⟩
  repeat first | refine EffG.mk (obA ?_) | refine obA ?_ | refine chkA ?_
  refine callA hb [] ?_
  repeat first | refine EffG.mk (obA ?_) | refine obA ?_ | refine chkA ?_
  refine callA hnw [6] ?_
  repeat first | refine EffG.mk (obA ?_) | refine obA ?_ | refine chkA ?_
  refine callA hpd [6, 7, 8, 8, 9, 10, 11, 12, 5] ?_ (hargs := congrArg (fun l => [D.ptr 9 [], .u32 ((n0 % 20#8).setWidth 32), .slice 5 [] 0 l none]) hL.symm)
  repeat first | refine EffG.mk (obA ?_) | refine obA ?_ | refine chkA ?_ | refine brY ?_ | refine brN ?_
  refine Br.no (show (!decide (((n0 % 20#8).setWidth 32) = ((n1 % 20#8).setWidth 32))) = false from by rw [decide_eq_true hn]; rfl) ?_
  repeat first | refine EffG.mk (obA ?_) | refine obA ?_ | refine chkA ?_ | refine brY ?_ | refine brN ?_
  refine callA hd [6, 7, 8, 13, 9, 10, 11, 12] ?_
  repeat first | refine EffG.mk (obA ?_) | refine obA ?_ | refine chkA ?_ | refine brY ?_ | refine brN ?_
  refine callA hq [6, 7, 8, 13, 9, 10, 11, 12, 0] ?_
  repeat first | refine EffG.mk (obA ?_) | refine obA ?_ | refine chkA ?_ | refine brY ?_ | refine brN ?_
  refine callA hr [6, 7, 8, 16, 9, 10, 11, 12] ?_
  repeat first | refine EffG.mk (obA ?_) | refine obA ?_ | refine chkA ?_ | refine brY ?_ | refine brN ?_
  refine callA hm [6, 7, 8, 16, 9, 10, 11, 12] ?_
  repeat first | refine EffG.mk (obA ?_) | refine obA ?_ | refine chkA ?_ | refine brY ?_ | refine brN ?_
  refine callT hg [6, 7, 8, 19, 9, 10, 11, 12] (.tup [nodeD8 0 0 7 0 0 0 0 0 (zB 32) (zB 32) (zB 32) (zB 32) (zB 32) (zB 32) (zB 32) (zB 32), .i64 0]) ?_
  iterate 4 (first | refine EffG.mk (obA ?_) | refine obA ?_ | refine chkA ?_)
  refine storeG (nodeD8 0 0 7 0 0 0 0 0 (zB 32) (zB 32) (zB 32) (zB 32) (zB 32) (zB 32) (zB 32) (zB 32)) rfl rfl rfl rfl rfl rfl rfl rfl rfl trivial n7ty ?_
  repeat first | refine EffG.mk (obA ?_) | refine obA ?_ | refine chkA ?_ | refine brY ?_ | refine brN ?_
  refine Br.yes q1 ?_
  repeat first | refine EffG.mk (obA ?_) | refine obA ?_ | refine chkA ?_ | refine brY ?_ | refine brN ?_
  refine Br.yes q2 ?_
  repeat first | refine EffG.mk (obA ?_) | refine obA ?_ | refine chkA ?_ | refine brY ?_ | refine brN ?_
  refine callA awake16_ac [] ?_
  repeat first | refine EffG.mk (obA ?_) | refine obA ?_ | refine chkA ?_ | refine brY ?_ | refine brN ?_
  refine retA [0]
end Go.Proofs.YtodkhgofmgaafaaDoor.Av

namespace Go.Proofs.YtodkhgofmgaafaaDoor.Av
open Go
set_option linter.all false
set_option maxRecDepth 3000

/-! SpaceBack: printed by gen_dwd.py -/
set_option maxHeartbeats 4000000 in
theorem sbackz_ac (K bs : List (BitVec 8)) (n0 n1 : BitVec 8) (hK : K.length = 32) (hn : ¬ ((n0 % 20#8).setWidth 32) = ((n1 % 20#8).setWidth 32)) :
    AC Tryd.prog 11 [.u8s K, .u8s [n0, n1], .nilslice] 1 [(0, some ⟨.row .cell, .u8s bs, false⟩), gR] ⟨.bool true, [], []⟩ := by
  have hBl : (dZ).length = 512 := dZ_length
  have hb := begun_ac
  have hnw := snew_ac 8 K (by decide) (by decide) hK geo_ne
  have h1 := rows_sched (labF K oneS) (labF_length _ _)
  have h2 := rows_sched (labF K twoS) (labF_length _ _)
  have ht := labF_length K tagS
  generalize labF K tagS = tg at hnw ht
  generalize schedF (labF K oneS) = k1 at hnw h1
  generalize schedF (labF K twoS) = k2 at hnw h2
  have ha := mod20_lt n0
  have ho := mod20_lt n1
  have hL : (512 : Nat) = 0 + 512 := by omega
  have hBP : dZ = (zB 512) := dZ_eq
  have hPl : ((zB 512)).length = 512 := by rw [← hBP]; exact hBl
  have hpd := sputdata_ac 8 tg k1 k2 32768 16384 none 16384 none [] 0 (zB 16384) ((n0 % 20#8).setWidth 32) dZ 0 none h1 h2 (by decide) (by decide) ht (by simp) (by simp) (by omega) (by omega) (by omega) (by omega) (by decide) (by decide) (by decide) (by decide)
  have hQ := sealF_length (k1 := k1) k2 (o := 0) ((n0 % 20#8).setWidth 32) (Nat.le_of_eq (show 0 + 512 = _ from by rw [hBl]))
  have hop := open_seal (k1 := k1) k2 (o := 0) ((n0 % 20#8).setWidth 32) (Nat.le_of_eq (show 0 + 512 = _ from by rw [hBl]))
  rw [List.drop_zero, List.take_of_length_le (Nat.le_of_eq hBl)] at hop
  generalize sealF k1 k2 dZ 0 ((n0 % 20#8).setWidth 32) = Q at hpd hQ hop
  have hy := leafF_length tg (((n0 % 20#8).setWidth 32) + 1) Q
  have hS1l : (layF (zB 16384) Q (512 * (8 + ((n0 % 20#8).setWidth 32).toNat))).length = 16384 := by rw [layF_length (by rw [hQ]; simp; omega)]; simp
  have hS1 : ((layF (zB 16384) Q (512 * (8 + ((n0 % 20#8).setWidth 32).toNat))).drop (512 * (8 + ((n0 % 20#8).setWidth 32).toNat))).take 512 = Q := by
    have := layF_at (S := zB 16384) (B := Q) (p := 512 * (8 + ((n0 % 20#8).setWidth 32).toNat)) (by rw [hQ]; simp; omega)
    rw [hQ] at this; exact this
  generalize layF (zB 16384) Q (512 * (8 + ((n0 % 20#8).setWidth 32).toNat)) = S1 at *
  have hpp := sputpagez_ac 8 tg k1 k2 32768 16384 none 16384 none [loF S1 (8 + ((n0 % 20#8).setWidth 32).toNat)] 1 S1 ((n1 % 20#8).setWidth 32) (by decide) (by decide) ht (by intro x hx; simp only [List.cons_append, List.nil_append, List.mem_cons, List.not_mem_nil, or_false] at hx; rcases hx with rfl <;> exact loB_length _ _ (by first | omega | (rw [hS3l]; decide) | (rw [hS4l]; decide))) hS1l (by omega) (by omega) (by decide) (by decide) (by simp) (by decide)
  have hS2l : (layF S1 (zB 512) (512 * (8 + ((n1 % 20#8).setWidth 32).toNat))).length = 16384 := by rw [layF_length (by rw [hPl, hS1l]; omega), hS1l]
  have hne : ((n0 % 20#8).setWidth 32).toNat ≠ ((n1 % 20#8).setWidth 32).toNat := fun e => hn (BitVec.eq_of_toNat_eq e)
  have hS2 : ((layF S1 (zB 512) (512 * (8 + ((n1 % 20#8).setWidth 32).toNat))).drop (512 * (8 + ((n0 % 20#8).setWidth 32).toNat))).take 512 = Q := by
    rw [layF_off (by rw [hPl, hS1l]; omega) (by rw [hS1l]; omega) (by rw [hPl]; omega)]; exact hS1
  generalize layF S1 (zB 512) (512 * (8 + ((n1 % 20#8).setWidth 32).toNat)) = S2 at *
  have e1 : (((n0 % 20#8).setWidth 32) + 1) - 1 = ((n0 % 20#8).setWidth 32) := BitVec.add_sub_cancel _ _
  have e2 : (((n0 % 20#8).setWidth 32) + 1).toNat = ((n0 % 20#8).setWidth 32).toNat + 1 := by rw [BitVec.toNat_add]; show (((n0 % 20#8).setWidth 32).toNat + 1) % 2 ^ 32 = _; omega
  have hd := sdata_ac 8 tg k1 k2 32768 16384 none 16384 none ([loF S1 (8 + ((n0 % 20#8).setWidth 32).toNat)] ++ [loF S2 (8 + ((n1 % 20#8).setWidth 32).toNat)]) 2 S2 (((n0 % 20#8).setWidth 32) + 1) (leafF tg (((n0 % 20#8).setWidth 32) + 1) Q) h1 h2 (by decide) (by decide) ht hy hS2l (by omega) (by omega) (by rw [e1]; omega) (by decide) (by rw [e1, hS2])
  rw [e1, hS2, hop] at hd
  generalize leafF tg (((n0 % 20#8).setWidth 32) + 1) Q = y at hpd hd hy
  have hq := sputpagez_ac 8 tg k1 k2 32768 16384 none 16384 none ([loF S1 (8 + ((n0 % 20#8).setWidth 32).toNat)] ++ [loF S2 (8 + ((n1 % 20#8).setWidth 32).toNat)]) 2 S2 20 (by decide) (by decide) ht (by intro x hx; simp only [List.cons_append, List.nil_append, List.mem_cons, List.not_mem_nil, or_false] at hx; rcases hx with rfl | rfl <;> exact loB_length _ _ (by first | omega | (rw [hS3l]; decide) | (rw [hS4l]; decide))) hS2l (by decide) (by decide) (by decide) (by decide) (by simp) (by decide)
  have hS3l : (layF S2 (zB 512) (512 * (8 + (20 : BitVec 32).toNat))).length = 16384 := by rw [layF_length (by rw [hPl, hS2l]; decide), hS2l]
  have hS3 : ((layF S2 (zB 512) (512 * (8 + (20 : BitVec 32).toNat))).drop (512 * (8 + (20 : BitVec 32).toNat))).take 512 = (zB 512) := by
    have := layF_at (S := S2) (B := (zB 512)) (p := 512 * (8 + (20 : BitVec 32).toNat)) (by rw [hPl, hS2l]; decide)
    rw [hPl] at this; exact this
  generalize layF S2 (zB 512) (512 * (8 + (20 : BitVec 32).toNat)) = S3 at *
  have hyp := pageF_length (zB 512)
  have hr := spage_ac 8 tg k1 k2 32768 16384 none 16384 none (([loF S1 (8 + ((n0 % 20#8).setWidth 32).toNat)] ++ [loF S2 (8 + ((n1 % 20#8).setWidth 32).toNat)]) ++ [loF S3 (8 + (20 : BitVec 32).toNat)]) 3 S3 21 (pageF (zB 512)) (by decide) (by decide) hyp hS3l (by decide) (by decide) (by decide) (by decide) (by rw [show (21 : BitVec 32) - 1 = 20 from rfl, hS3])
  rw [show (21 : BitVec 32) - 1 = 20 from rfl, hS3] at hr
  have hy2 := hyp
  generalize pageF (zB 512) = yp at *
  have hm := sputnode_ac 8 tg k1 k2 32768 16384 none 16384 none (([loF S1 (8 + ((n0 % 20#8).setWidth 32).toNat)] ++ [loF S2 (8 + ((n1 % 20#8).setWidth 32).toNat)]) ++ [loF S3 (8 + (20 : BitVec 32).toNat)]) 3 S3 21 0 0 7 0 0 0 0 0 (zB 32) (zB 32) (zB 32) (zB 32) (zB 32) (zB 32) (zB 32) (zB 32) rfl rfl rfl rfl rfl rfl rfl rfl (by decide) (by decide) ht (by intro x hx; simp only [List.cons_append, List.nil_append, List.mem_cons, List.not_mem_nil, or_false] at hx; rcases hx with rfl | rfl | rfl <;> exact loB_length _ _ (by first | omega | (rw [hS3l]; decide) | (rw [hS4l]; decide))) hS3l (by decide) (by decide) (by decide) (by decide) (by simp) (by decide)
  have hZ := node7_get
  have hZl := node7_length
  generalize pad512 (node8B 0 0 7 0 0 0 0 0 (zB 32) (zB 32) (zB 32) (zB 32) (zB 32) (zB 32) (zB 32) (zB 32)) = Z at hm hZ hZl
  have hS4l : (layF S3 Z (512 * (8 + (21 : BitVec 32).toNat))).length = 16384 := by rw [layF_length (by rw [hZl, hS3l]; decide), hS3l]
  have hS4 : ((layF S3 Z (512 * (8 + (21 : BitVec 32).toNat))).drop (512 * (8 + (21 : BitVec 32).toNat))).take 512 = Z := by
    have := layF_at (S := S3) (B := Z) (p := 512 * (8 + (21 : BitVec 32).toNat)) (by rw [hZl, hS3l]; decide)
    rw [hZl] at this; exact this
  generalize layF S3 Z (512 * (8 + (21 : BitVec 32).toNat)) = S4 at *
  have hyn := nodeF_length Z
  have hg := snode_ac 8 tg k1 k2 32768 16384 none 16384 none ((([loF S1 (8 + ((n0 % 20#8).setWidth 32).toNat)] ++ [loF S2 (8 + ((n1 % 20#8).setWidth 32).toNat)]) ++ [loF S3 (8 + (20 : BitVec 32).toNat)]) ++ [loF S4 (8 + (21 : BitVec 32).toNat)]) 4 S4 22 (nodeF Z) (by decide) (by decide) hyn hS4l (by decide) (by decide) (by decide) (by decide) (by rw [show (22 : BitVec 32) - 1 = 21 from rfl, hS4])
  rw [show (22 : BitVec 32) - 1 = 21 from rfl, hS4, hZ] at hg
  generalize nodeF Z = yn at *
  have q1 : decide (List.take 512 (List.drop 0 dZ) = List.take 512 (List.drop 0 dZ)) = true := decide_eq_true (by rfl)
  have q2 : decide (List.take 512 (List.drop 0 (zB 512)) = List.take 512 (List.drop 0 dZ)) = true := decide_eq_true (by rw [hBP])
  clear hop hQ ha ho e1 e2 h1 h2 ht
  clear hS1 hS1l hS3 hS3l hS4 hS4l hZ hZl hS2 hS2l hne hy2
  refine acA tab mix Tryd.func11 {} ?_
  repeat first | refine EffG.mk (obA ?_) | refine obA ?_ | refine chkA ?_
  refine ⟨0, ?_⟩
  repeat first | refine EffG.mk (obA ?_) | refine obA ?_ | refine chkA ?_
  refine ⟨0, ?_⟩
  repeat first | refine EffG.mk (obA ?_) | refine obA ?_ | refine chkA ?_
  refine callA hb [] ?_
  repeat first | refine EffG.mk (obA ?_) | refine obA ?_ | refine chkA ?_
  refine callA hnw [6] ?_
  repeat first | refine EffG.mk (obA ?_) | refine obA ?_ | refine chkA ?_
  refine callA hpd [6, 7, 8, 8, 9, 10, 11, 12, 5] ?_
  repeat first | refine EffG.mk (obA ?_) | refine obA ?_ | refine chkA ?_ | refine brY ?_ | refine brN ?_
  refine Br.yes (show (!decide (((n0 % 20#8).setWidth 32) = ((n1 % 20#8).setWidth 32))) = true from by rw [decide_eq_false hn]; rfl) ?_
  repeat first | refine EffG.mk (obA ?_) | refine obA ?_ | refine chkA ?_ | refine brY ?_ | refine brN ?_
  refine callA hpp [6, 7, 8, 13, 9, 10, 11, 12] ?_
  repeat first | refine EffG.mk (obA ?_) | refine obA ?_ | refine chkA ?_ | refine brY ?_ | refine brN ?_
  refine callA hd [6, 7, 8, 15, 9, 10, 11, 12] ?_
  repeat first | refine EffG.mk (obA ?_) | refine obA ?_ | refine chkA ?_ | refine brY ?_ | refine brN ?_
  refine callA hq [6, 7, 8, 15, 9, 10, 11, 12] ?_
  repeat first | refine EffG.mk (obA ?_) | refine obA ?_ | refine chkA ?_ | refine brY ?_ | refine brN ?_
  refine callA hr [6, 7, 8, 18, 9, 10, 11, 12] ?_
  repeat first | refine EffG.mk (obA ?_) | refine obA ?_ | refine chkA ?_ | refine brY ?_ | refine brN ?_
  refine callA hm [6, 7, 8, 18, 9, 10, 11, 12] ?_
  repeat first | refine EffG.mk (obA ?_) | refine obA ?_ | refine chkA ?_ | refine brY ?_ | refine brN ?_
  refine callT hg [6, 7, 8, 21, 9, 10, 11, 12] (.tup [nodeD8 0 0 7 0 0 0 0 0 (zB 32) (zB 32) (zB 32) (zB 32) (zB 32) (zB 32) (zB 32) (zB 32), .i64 0]) ?_
  iterate 4 (first | refine EffG.mk (obA ?_) | refine obA ?_ | refine chkA ?_)
  refine storeG (nodeD8 0 0 7 0 0 0 0 0 (zB 32) (zB 32) (zB 32) (zB 32) (zB 32) (zB 32) (zB 32) (zB 32)) rfl rfl rfl rfl rfl rfl rfl rfl rfl trivial n7ty ?_
  repeat first | refine EffG.mk (obA ?_) | refine obA ?_ | refine chkA ?_ | refine brY ?_ | refine brN ?_
  refine callA awake16_ac [] ?_
  repeat first | refine EffG.mk (obA ?_) | refine obA ?_ | refine chkA ?_ | refine brY ?_ | refine brN ?_
  refine retA [0]
end Go.Proofs.YtodkhgofmgaafaaDoor.Av

namespace Go.Proofs.YtodkhgofmgaafaaDoor.Av
open Go
set_option linter.all false
set_option maxRecDepth 3000

/-! SpaceBack: printed by gen_dwd.py -/
set_option maxHeartbeats 4000000 in
theorem sbackz1_ac (K bs : List (BitVec 8)) (n0 n1 : BitVec 8) (hK : K.length = 32) (hn : ((n0 % 20#8).setWidth 32) = ((n1 % 20#8).setWidth 32)) :
    AC Tryd.prog 11 [.u8s K, .u8s [n0, n1], .nilslice] 1 [(0, some ⟨.row .cell, .u8s bs, false⟩), gR] ⟨.bool true, [], []⟩ := by
  have hBl : (dZ).length = 512 := dZ_length
  have hb := begun_ac
  have hnw := snew_ac 8 K (by decide) (by decide) hK geo_ne
  have h1 := rows_sched (labF K oneS) (labF_length _ _)
  have h2 := rows_sched (labF K twoS) (labF_length _ _)
  have ht := labF_length K tagS
  generalize labF K tagS = tg at hnw ht
  generalize schedF (labF K oneS) = k1 at hnw h1
  generalize schedF (labF K twoS) = k2 at hnw h2
  have ha := mod20_lt n0
  have ho := mod20_lt n1
  have hL : (512 : Nat) = 0 + 512 := by omega
  have hBP : dZ = (zB 512) := dZ_eq
  have hPl : ((zB 512)).length = 512 := by rw [← hBP]; exact hBl
  have hpd := sputdata_ac 8 tg k1 k2 32768 16384 none 16384 none [] 0 (zB 16384) ((n0 % 20#8).setWidth 32) dZ 0 none h1 h2 (by decide) (by decide) ht (by simp) (by simp) (by omega) (by omega) (by omega) (by omega) (by decide) (by decide) (by decide) (by decide)
  have hQ := sealF_length (k1 := k1) k2 (o := 0) ((n0 % 20#8).setWidth 32) (Nat.le_of_eq (show 0 + 512 = _ from by rw [hBl]))
  have hop := open_seal (k1 := k1) k2 (o := 0) ((n0 % 20#8).setWidth 32) (Nat.le_of_eq (show 0 + 512 = _ from by rw [hBl]))
  rw [List.drop_zero, List.take_of_length_le (Nat.le_of_eq hBl)] at hop
  generalize sealF k1 k2 dZ 0 ((n0 % 20#8).setWidth 32) = Q at hpd hQ hop
  have hy := leafF_length tg (((n0 % 20#8).setWidth 32) + 1) Q
  have hS1l : (layF (zB 16384) Q (512 * (8 + ((n0 % 20#8).setWidth 32).toNat))).length = 16384 := by rw [layF_length (by rw [hQ]; simp; omega)]; simp
  have hS1 : ((layF (zB 16384) Q (512 * (8 + ((n0 % 20#8).setWidth 32).toNat))).drop (512 * (8 + ((n0 % 20#8).setWidth 32).toNat))).take 512 = Q := by
    have := layF_at (S := zB 16384) (B := Q) (p := 512 * (8 + ((n0 % 20#8).setWidth 32).toNat)) (by rw [hQ]; simp; omega)
    rw [hQ] at this; exact this
  generalize layF (zB 16384) Q (512 * (8 + ((n0 % 20#8).setWidth 32).toNat)) = S1 at *
  have e1 : (((n0 % 20#8).setWidth 32) + 1) - 1 = ((n0 % 20#8).setWidth 32) := BitVec.add_sub_cancel _ _
  have e2 : (((n0 % 20#8).setWidth 32) + 1).toNat = ((n0 % 20#8).setWidth 32).toNat + 1 := by rw [BitVec.toNat_add]; show (((n0 % 20#8).setWidth 32).toNat + 1) % 2 ^ 32 = _; omega
  have hd := sdata_ac 8 tg k1 k2 32768 16384 none 16384 none [loF S1 (8 + ((n0 % 20#8).setWidth 32).toNat)] 1 S1 (((n0 % 20#8).setWidth 32) + 1) (leafF tg (((n0 % 20#8).setWidth 32) + 1) Q) h1 h2 (by decide) (by decide) ht hy hS1l (by omega) (by omega) (by rw [e1]; omega) (by decide) (by rw [e1, hS1])
  rw [e1, hS1, hop] at hd
  generalize leafF tg (((n0 % 20#8).setWidth 32) + 1) Q = y at hpd hd hy
  have hq := sputpagez_ac 8 tg k1 k2 32768 16384 none 16384 none [loF S1 (8 + ((n0 % 20#8).setWidth 32).toNat)] 1 S1 20 (by decide) (by decide) ht (by intro x hx; simp only [List.cons_append, List.nil_append, List.mem_cons, List.not_mem_nil, or_false] at hx; rcases hx with rfl <;> exact loB_length _ _ (by first | omega | (rw [hS3l]; decide) | (rw [hS4l]; decide))) hS1l (by decide) (by decide) (by decide) (by decide) (by simp) (by decide)
  have hS3l : (layF S1 (zB 512) (512 * (8 + (20 : BitVec 32).toNat))).length = 16384 := by rw [layF_length (by rw [hPl, hS1l]; decide), hS1l]
  have hS3 : ((layF S1 (zB 512) (512 * (8 + (20 : BitVec 32).toNat))).drop (512 * (8 + (20 : BitVec 32).toNat))).take 512 = (zB 512) := by
    have := layF_at (S := S1) (B := (zB 512)) (p := 512 * (8 + (20 : BitVec 32).toNat)) (by rw [hPl, hS1l]; decide)
    rw [hPl] at this; exact this
  generalize layF S1 (zB 512) (512 * (8 + (20 : BitVec 32).toNat)) = S3 at *
  have hyp := pageF_length (zB 512)
  have hr := spage_ac 8 tg k1 k2 32768 16384 none 16384 none ([loF S1 (8 + ((n0 % 20#8).setWidth 32).toNat)] ++ [loF S3 (8 + (20 : BitVec 32).toNat)]) 2 S3 21 (pageF (zB 512)) (by decide) (by decide) hyp hS3l (by decide) (by decide) (by decide) (by decide) (by rw [show (21 : BitVec 32) - 1 = 20 from rfl, hS3])
  rw [show (21 : BitVec 32) - 1 = 20 from rfl, hS3] at hr
  generalize pageF (zB 512) = yp at *
  have hm := sputnode_ac 8 tg k1 k2 32768 16384 none 16384 none ([loF S1 (8 + ((n0 % 20#8).setWidth 32).toNat)] ++ [loF S3 (8 + (20 : BitVec 32).toNat)]) 2 S3 21 0 0 7 0 0 0 0 0 (zB 32) (zB 32) (zB 32) (zB 32) (zB 32) (zB 32) (zB 32) (zB 32) rfl rfl rfl rfl rfl rfl rfl rfl (by decide) (by decide) ht (by intro x hx; simp only [List.cons_append, List.nil_append, List.mem_cons, List.not_mem_nil, or_false] at hx; rcases hx with rfl | rfl <;> exact loB_length _ _ (by first | omega | (rw [hS3l]; decide) | (rw [hS4l]; decide))) hS3l (by decide) (by decide) (by decide) (by decide) (by simp) (by decide)
  have hZ := node7_get
  have hZl := node7_length
  generalize pad512 (node8B 0 0 7 0 0 0 0 0 (zB 32) (zB 32) (zB 32) (zB 32) (zB 32) (zB 32) (zB 32) (zB 32)) = Z at hm hZ hZl
  have hS4l : (layF S3 Z (512 * (8 + (21 : BitVec 32).toNat))).length = 16384 := by rw [layF_length (by rw [hZl, hS3l]; decide), hS3l]
  have hS4 : ((layF S3 Z (512 * (8 + (21 : BitVec 32).toNat))).drop (512 * (8 + (21 : BitVec 32).toNat))).take 512 = Z := by
    have := layF_at (S := S3) (B := Z) (p := 512 * (8 + (21 : BitVec 32).toNat)) (by rw [hZl, hS3l]; decide)
    rw [hZl] at this; exact this
  generalize layF S3 Z (512 * (8 + (21 : BitVec 32).toNat)) = S4 at *
  have hyn := nodeF_length Z
  have hg := snode_ac 8 tg k1 k2 32768 16384 none 16384 none (([loF S1 (8 + ((n0 % 20#8).setWidth 32).toNat)] ++ [loF S3 (8 + (20 : BitVec 32).toNat)]) ++ [loF S4 (8 + (21 : BitVec 32).toNat)]) 3 S4 22 (nodeF Z) (by decide) (by decide) hyn hS4l (by decide) (by decide) (by decide) (by decide) (by rw [show (22 : BitVec 32) - 1 = 21 from rfl, hS4])
  rw [show (22 : BitVec 32) - 1 = 21 from rfl, hS4, hZ] at hg
  generalize nodeF Z = yn at *
  have q1 : decide (List.take 512 (List.drop 0 dZ) = List.take 512 (List.drop 0 dZ)) = true := decide_eq_true (by rfl)
  have q2 : decide (List.take 512 (List.drop 0 (zB 512)) = List.take 512 (List.drop 0 dZ)) = true := decide_eq_true (by rw [hBP])
  clear hop hQ ha ho e1 e2 h1 h2 ht
  clear hS1 hS1l hS3 hS3l hS4 hS4l hZ hZl
  refine acA tab mix Tryd.func11 {} ?_
  repeat first | refine EffG.mk (obA ?_) | refine obA ?_ | refine chkA ?_
  refine ⟨0, ?_⟩
  repeat first | refine EffG.mk (obA ?_) | refine obA ?_ | refine chkA ?_
  refine ⟨0, ?_⟩
  repeat first | refine EffG.mk (obA ?_) | refine obA ?_ | refine chkA ?_
  refine callA hb [] ?_
  repeat first | refine EffG.mk (obA ?_) | refine obA ?_ | refine chkA ?_
  refine callA hnw [6] ?_
  repeat first | refine EffG.mk (obA ?_) | refine obA ?_ | refine chkA ?_
  refine callA hpd [6, 7, 8, 8, 9, 10, 11, 12, 5] ?_
  repeat first | refine EffG.mk (obA ?_) | refine obA ?_ | refine chkA ?_ | refine brY ?_ | refine brN ?_
  refine Br.no (show (!decide (((n0 % 20#8).setWidth 32) = ((n1 % 20#8).setWidth 32))) = false from by rw [decide_eq_true hn]; rfl) ?_
  repeat first | refine EffG.mk (obA ?_) | refine obA ?_ | refine chkA ?_ | refine brY ?_ | refine brN ?_
  refine callA hd [6, 7, 8, 13, 9, 10, 11, 12] ?_
  repeat first | refine EffG.mk (obA ?_) | refine obA ?_ | refine chkA ?_ | refine brY ?_ | refine brN ?_
  refine callA hq [6, 7, 8, 13, 9, 10, 11, 12] ?_
  repeat first | refine EffG.mk (obA ?_) | refine obA ?_ | refine chkA ?_ | refine brY ?_ | refine brN ?_
  refine callA hr [6, 7, 8, 16, 9, 10, 11, 12] ?_
  repeat first | refine EffG.mk (obA ?_) | refine obA ?_ | refine chkA ?_ | refine brY ?_ | refine brN ?_
  refine callA hm [6, 7, 8, 16, 9, 10, 11, 12] ?_
  repeat first | refine EffG.mk (obA ?_) | refine obA ?_ | refine chkA ?_ | refine brY ?_ | refine brN ?_
  refine callT hg [6, 7, 8, 19, 9, 10, 11, 12] (.tup [nodeD8 0 0 7 0 0 0 0 0 (zB 32) (zB 32) (zB 32) (zB 32) (zB 32) (zB 32) (zB 32) (zB 32), .i64 0]) ?_
  iterate 4 (first | refine EffG.mk (obA ?_) | refine obA ?_ | refine chkA ?_)
  refine storeG (nodeD8 0 0 7 0 0 0 0 0 (zB 32) (zB 32) (zB 32) (zB 32) (zB 32) (zB 32) (zB 32) (zB 32)) rfl rfl rfl rfl rfl rfl rfl rfl rfl trivial n7ty ?_
  repeat first | refine EffG.mk (obA ?_) | refine obA ?_ | refine chkA ?_ | refine brY ?_ | refine brN ?_
  refine callA awake16_ac [] ?_
  repeat first | refine EffG.mk (obA ?_) | refine obA ?_ | refine chkA ?_ | refine brY ?_ | refine brN ?_
  refine retA [0]
end Go.Proofs.YtodkhgofmgaafaaDoor.Av

namespace Go.Proofs.YtodkhgofmgaafaaDoor.Av
open Go
set_option linter.all false
set_option maxRecDepth 3000

theorem spaceback_ac (K n bs : List (BitVec 8)) (k : Nat) (x : Option Nat) (hK : K.length = 32) (hn : n.length = 2) (hbs : bs.length = k) (hk : k ≤ 140737488355328) :
    AC Tryd.prog 11 [.u8s K, .u8s n, slD 0 k x] 1 [(0, some ⟨.row .cell, .u8s bs, false⟩), gR] ⟨.bool true, [], []⟩ := by
  match n, hn with
  | [n0, n1], _ =>
    by_cases h : (n0 % 20#8).setWidth 32 = (n1 % 20#8).setWidth 32
    · cases x with
      | none => exact sbackz1_ac K bs n0 n1 hK h
      | some c => exact sback1_ac K bs n0 n1 k c hbs hk hK h
    · cases x with
      | none => exact sbackz_ac K bs n0 n1 hK h
      | some c => exact sback_ac K bs n0 n1 k c hbs hk hK h
end Go.Proofs.YtodkhgofmgaafaaDoor.Av

namespace Go.Proofs.YtodkhgofmgaafaaDoor.Av
open Go Go.ChangeShapes Go.WideShapes
set_option linter.all false
set_option maxRecDepth 3000

/-! from a contract to a row of a law over plain data -/

theorem rep_u8 {ρ : Env} {n : Int} (h : (Lit.int .u8 n).wf = true) : Rep ρ (.u8 (BitVec.ofNat 8 n.toNat)) (.int .u8 n) := by
  simp only [Lit.wf, Bool.and_eq_true, decide_eq_true_eq] at h
  have h1 : (0 : Int) ≤ n := h.1
  have h2 : n < 256 := by
    have := h.2
    have e : IntKind.u8.max = 255 := by decide
    omega
  show Value.int _ _ = .int _ _
  congr 1
  simp; omega

theorem kept_of_same {W W' : World} (ho : W'.os = W.os) (hp : W'.output = W.output) (hs : ∀ b, b < W.heap.size → W'.heap[b]? = W.heap[b]?) (may : MemPlace → Prop) : W.keptBut W' may := by
  refine ⟨ho, hp, fun i hi => ?_⟩
  rw [hs i hi]
  split
  · rename_i h1 h2
    rw [h1] at h2; cases h2
    exact ⟨rfl, rfl, rfl, fun _ _ => rfl⟩
  · rename_i h1 h2
    rw [h1] at h2; cases h2
    exact .inr ⟨rfl, rfl⟩
  · rfl

section
variable {H : Type} {enc : TypeId × Value → H} {P : Program}
theorem mapM_none {α β : Type} {f g : α → Option (β × List MemPlace)} : ∀ {l : List α} {r : List (β × List MemPlace)}, l.mapM f = some r → (∀ x y, x ∈ l → f x = some y → y.2 = [] ∧ g x = some y) → l.mapM g = some r ∧ r.flatMap (·.2) = []
  | [], r, h, _ => by
    simp at h; subst h; exact ⟨rfl, rfl⟩
  | a :: l, r, h, hfg => by
    rw [List.mapM_cons] at h ⊢
    simp only [bind, Option.bind_eq_some_iff, pure, Option.some.injEq] at h
    obtain ⟨y, hy, ys, hys, rfl⟩ := h
    obtain ⟨h1, h2⟩ := hfg a y (by simp) hy
    obtain ⟨h3, h4⟩ := mapM_none hys (fun x y hx => hfg x y (List.mem_cons_of_mem _ hx))
    rw [h2, h3]
    exact ⟨rfl, by rw [List.flatMap_cons, h1, h4]; rfl⟩

end
end Go.Proofs.YtodkhgofmgaafaaDoor.Av

namespace Go.Proofs.YtodkhgofmgaafaaDoor.Av
open Go Go.ChangeShapes Go.WideShapes
set_option linter.all false
set_option maxRecDepth 3000

/-! slices of bytes that came in, and are only read -/

section
variable {H : Type} {enc : TypeId × Value → H} {P : Program}

theorem shape_cells {w : World} {b row cells : Nat} (h : w.shape? b = some (row, cells)) : ∃ C t fr, w.heap[b]? = some (.cells C t fr) := by
  unfold World.shape? at h
  split at h
  · rename_i C t fr hC
    exact ⟨C, t, fr, hC⟩
  · cases h

/-- what a slice of bytes gives a walk: its bytes; a place from which it is read; it reads the same wherever its block is as it was -/
theorem open_slice {t e : TypeId} (ht : P.underlying t = some (.slice e)) (he : P.underlying e = some (.int .u8)) (hc : P.cellsOf e = 1) {r : Reach} {b0 : Nat} {W : World} {v : Value} {d : DataW H} {ps : List MemPlace}
    (hval : Value.okWide P W r b0 t v) (hd : DataW.Trod enc P W 0 (fun _ => true) true t v d ps) :
    (v = .slice none 0 0 ∧ ps = [] ∧ ∀ (W' : World) (sp : Nat → Bool), DataW.Trod enc P W' 0 sp true t v d []) ∨
    ∃ (l : List (BitVec 8)) (L : Loc) (cap : Nat), l.length ≤ cap ∧ cap < 9223372036854775808 ∧ SatE (fun _ => none) ⟨.row .cell, .u8s l, false⟩ L W ∧
      (∀ (ρ : Env) (i : Nat), ρ i = some L → Rep ρ (.slice i [] 0 l.length (some cap)) v) ∧
      (∀ (W' : World) (sp : Nat → Bool), (∀ b, b < W.heap.size → W'.heap[b]? = W.heap[b]?) → (∀ p ∈ ps, sp p.block = true) → DataW.Trod enc P W' 0 sp true t v d ps) ∧ ∃ es sp, d = .slice es sp ∧ es.length = l.length := by
  obtain ⟨fuel, hf⟩ := hd
  have hval' : Cell.okWide P W r b0 t v := by
    simp only [Value.okWide, ht] at hval; exact hval
  rcases open_ints ht he hc hf with ⟨hcs, hx⟩ | ⟨a, len, cap, zs, hcs, _, hl, hm, hz, hx, hcell, hwz⟩
  · left
    have hv : v = .slice none 0 0 := by
      cases v <;> simp_all [Value.cells]
      simp only [Cell.okWide, ht, Cell.ok] at hval'
    subst hv
    cases hx
    refine ⟨rfl, rfl, fun W' sp => ⟨1, ?_⟩⟩
    simp [DataW.trod, ht, Value.cells]
  right
  have hv : v = .slice (some a) len cap := by
    cases v <;> simp_all [Value.cells]
    simp only [Cell.okWide, ht, Cell.ok] at hval'
  subst hv
  cases hx
  simp only [if_true] at hz
  simp only [Cell.okWide, ht, Cell.ok] at hval'
  obtain ⟨_, _, _, hspot, row, cells, hsh, _⟩ := hval'
  obtain ⟨C, T, fr, hC⟩ := shape_cells hsh
  obtain ⟨ab, ao, spot⟩ := a
  have hspot : spot = none := hspot
  subst hspot
  have hC : W.heap[ab]? = some (.cells C T fr) := hC
  have hcell' : ∀ i, i < cap → C[ao + i]? = some (.int .u8 (zs.getD i 0)) := by
    intro i hi
    have := hcell i (by omega)
    rw [Addr.add_lit] at this
    simpa [World.cell?, hC] using this
  have hbd : 0 < cap → ao + cap ≤ C.size := by
    intro h0
    have := hcell' (cap - 1) (by omega)
    rcases Nat.lt_or_ge (ao + (cap - 1)) C.size with h | h
    · omega
    · rw [Array.getElem?_eq_none h] at this; cases this
  let l : List (BitVec 8) := (zs.take len).map fun n => BitVec.ofNat 8 n.toNat
  have hll : l.length = len := by simp [l]; omega
  let base : Nat := if cap = 0 then 0 else ao
  have hbase : base + len ≤ C.size := by
    by_cases h : cap = 0
    · simp only [base, if_pos h]; omega
    · simp only [base, if_neg h]
      have := hbd (by omega)
      omega
  have hreads : ∀ i, i < len → C[base + i]? = some (.int .u8 (zs.getD i 0)) := by
    intro i hi
    have h : ¬ cap = 0 := by omega
    simp only [base, if_neg h]
    exact hcell' i (by omega)
  refine ⟨l, ⟨ab, base, C.size, .row .cell⟩, cap, by omega, ?_, ⟨rfl, trivial, trivial, C, T, fr, C.toList.take base, (C.toList.drop base).take len, C.toList.drop (base + len), hC, list_win C.toList base len, ?_, rfl, ?_, fun h => by cases h⟩, fun ρ i hρ => ?_, fun W' sp hW hsp => ?_, _, _, rfl, by simp only [lits, List.length_map, List.length_take, hll]; omega⟩
  · unfold maxLen at hm; omega
  · rw [List.length_take, Array.length_toList]
    show min base C.size = base
    omega
  · show All2 _ (l.map D.u8) _
    have key : ∀ (n : Nat) (zs : List Int) (cs : List Value), n ≤ zs.length → (∀ z ∈ zs, (Lit.int .u8 z).wf = true) → (∀ i, i < n → cs[i]? = some (.int .u8 (zs.getD i 0))) → cs.length = n →
        All2 (RepS (fun _ => none)) (((zs.take n).map fun n => BitVec.ofNat 8 n.toNat).map D.u8) cs := by
      intro n
      induction n with
      | zero =>
        intro zs cs _ _ _ hlen
        have : cs = [] := List.eq_nil_of_length_eq_zero hlen
        subst this
        exact trivial
      | succ n ih =>
        intro zs cs hn hw hcs hlen
        match zs, cs, hn, hlen with
        | z :: zs, c :: cs, hn, hlen =>
          have h0 := hcs 0 (by omega)
          simp at h0
          subst h0
          refine ⟨rep_u8 (ρ := fun _ => none) (hw z (by simp)), ih zs cs (by simpa using hn) (fun x hx => hw x (List.mem_cons_of_mem _ hx)) (fun i hi => ?_) (by simpa using hlen)⟩
          simpa using hcs (i + 1) (by omega)
    refine key len zs _ (by omega) hwz (fun i hi => ?_) ?_
    · rw [List.getElem?_take, if_pos hi, List.getElem?_drop, Array.getElem?_toList]
      exact hreads i hi
    · rw [List.length_take, List.length_drop, Array.length_toList]; omega
  · refine ⟨_, hρ, .row .cell, .cell, ⟨ab, ao, none⟩, cap, rfl, rfl, by rw [hll], by omega, by unfold maxLen at hm; omega, fun k hk => by cases hk; rfl, fun h0 => ?_⟩
    have h : ¬ cap = 0 := by omega
    have := hbd h0
    simp only [base, if_neg h, offAt, Ty.size]
    exact ⟨by simp, by omega⟩
  · refine ⟨2, ?_⟩
    have hcells : (Value.slice (some ⟨ab, ao, none⟩) len cap).cells.toList = [.slice (some ⟨ab, ao, none⟩) len cap] := by simp [Value.cells]
    rw [hcells]
    have hab : ab < W.heap.size := by
      rcases Nat.lt_or_ge ab W.heap.size with h | h
      · exact h
      · rw [Array.getElem?_eq_none h] at hC; cases hC
    refine shut_ints' 0 ht he hc (Nat.zero_le _) hl hm ?_ (fun i hi => ?_) hwz
    · rw [hz]
      by_cases h : cap = 0
      · split <;> omega
      · have : sp ab = true := hsp (.cell ab ao) (MemPlace.mem_row.2 ⟨0, by omega, rfl⟩)
        rw [if_pos this]
    · have := hcell' i (by omega)
      simp only [World.cell?, hW ab hab, hC]
      simpa using this
end

section
variable {H : Type} {enc : TypeId × Value → H} {P : Program}

/-- an array of bytes among cells: its bytes; it reads so anywhere -/
theorem trod_u8s {t e : TypeId} {n : Nat} (ht : P.underlying t = some (.array n e)) (he : P.underlying e = some (.int .u8)) (hc : P.cellsOf e = 1) (hs : P.cellsOf t = n) {base : Nat} {W : World} {cs : List Value} {y : DataW H × List MemPlace}
    {sp : Nat → Bool} {held : Bool} {fuel : Nat} (hf : DataW.trod enc P W base sp held fuel t cs = some y) :
    y.2 = [] ∧ (∃ l : List (BitVec 8), l.length = n ∧ ∀ ρ, All2 (RepS ρ) (l.map D.u8) cs) ∧ ∀ (W' : World) (base' : Nat) (sp' : Nat → Bool) (held' : Bool), DataW.trod enc P W' base' sp' held' fuel t cs = some y := by
  obtain ⟨ys, m, rfl, hx, hl, hys, hi⟩ := DataW.trod_array ht hf
  have hget : ∀ i, i < n → ∃ a, cs[i]? = some (.int .u8 a) ∧ (Lit.int .u8 a).wf = true := by
    intro i hin
    have h := hi i hin
    rw [List.getElem?_eq_getElem (by omega)] at h
    obtain ⟨a, h1, _, h2⟩ := DataW.trod_int he h
    rw [hc, Nat.mul_one] at h1
    refine ⟨a, ?_, h2⟩
    have := congrArg (·[0]?) h1
    simpa [List.getElem?_take, List.getElem?_drop] using this
  have hlen : cs.length = n := by rw [hl, hs]
  have key : ∀ (cs : List Value), (∀ i, i < cs.length → ∃ a, cs[i]? = some (.int .u8 a) ∧ (Lit.int .u8 a).wf = true) → ∃ l : List (BitVec 8), l.length = cs.length ∧ ∀ ρ, All2 (RepS ρ) (l.map D.u8) cs := by
    intro cs
    induction cs with
    | nil => intro _; exact ⟨[], rfl, fun _ => trivial⟩
    | cons c cs ih =>
      intro h
      obtain ⟨a, h1, h2⟩ := h 0 (by simp)
      simp at h1; subst h1
      obtain ⟨l, h3, h4⟩ := ih (fun i hi => by simpa using h (i + 1) (by simpa using hi))
      exact ⟨BitVec.ofNat 8 a.toNat :: l, by simp [h3], fun ρ => ⟨rep_u8 (ρ := ρ) h2, h4 ρ⟩⟩
  obtain ⟨l, h1, h2⟩ := key cs (by rw [hlen]; exact hget)
  have hstay : ∀ (W' : World) (base' : Nat) (sp' : Nat → Bool) (held' : Bool), DataW.trod enc P W' base' sp' held' (m + 1) t cs = some y ∧ y.2 = [] := by
    intro W' base' sp' held'
    unfold DataW.trod at hf ⊢
    rw [ht] at hf ⊢
    simp only [hl, if_true, Option.map_eq_some_iff] at hf ⊢
    obtain ⟨zs, hz, hzx⟩ := hf
    obtain ⟨h3, h4⟩ := mapM_none (g := fun i => DataW.trod enc P W' base' sp' held' m e ((cs.drop (i * P.cellsOf e)).take (P.cellsOf e))) hz (fun i y _ hy => by
      obtain ⟨a, e1, e2, e3⟩ := DataW.trod_int he hy
      rw [e2]
      refine ⟨rfl, ?_⟩
      rw [e1]
      cases m with
      | zero => simp [DataW.trod] at hy
      | succ m => simp [DataW.trod, he, e3])
    refine ⟨⟨zs, h3, hzx⟩, ?_⟩
    rw [← hzx]; exact h4
  exact ⟨(hstay W 0 sp held).2, ⟨l, by rw [h1, hlen], h2⟩, fun W' base' sp' held' => (hstay W' base' sp' held').1⟩

theorem rep_u64 {ρ : Env} {n : Int} (h : (Lit.int .u64 n).wf = true) : Rep ρ (.u64 (BitVec.ofNat 64 n.toNat)) (.int .u64 n) := by
  simp only [Lit.wf, Bool.and_eq_true, decide_eq_true_eq] at h
  have h1 : (0 : Int) ≤ n := h.1
  have h2 : n < 18446744073709551616 := by
    have := h.2
    have e : IntKind.u64.max = 18446744073709551615 := by decide
    omega
  show Value.int _ _ = .int _ _
  congr 1
  simp; omega

end

section
variable {H : Type} {enc : TypeId × Value → H} {P : Program}
theorem post_places {f : Func} {s : ChangeSpec} {apart fresh handsOn : Bool} {W W' : World} {args : Array Value} {v : Value} {ds gs : List (DataW H)} {before : List MemPlace}
    (hW : DataW.Whole enc P f.params.toList s.vars apart W args.toList ds gs before)
    (hres : ∀ (b : Nat) (sp : Nat → Bool) (hd : Bool), DataW.TrodAll enc P W' b sp hd f.resultTypes.toList (v.resultList f.resultTypes.size) (s.fn H (ds ++ gs)).results [])
    (hargs : ∀ sp : Nat → Bool, (∀ p ∈ before, sp p.block = true) → DataW.TrodAll enc P W' 0 sp true f.params.toList args.toList (s.fn H (ds ++ gs)).args before)
    (hvars : ∀ sp : Nat → Bool, DataW.TrodVars enc P W' sp s.vars (s.fn H (ds ++ gs)).vars [])
    (hk : W.keptBut W' (fun _ => False)) : s.post enc P f apart fresh handsOn false W args v W' :=
  ⟨ds, gs, before, [], before, [], hW, hres _ _ _, hargs _ (fun p hp => by simpa using hW.lt p hp), hvars _, World.keptBut_mono (fun _ h => h.elim) hk, (fun h => nomatch h)⟩
end
end Go.Proofs.YtodkhgofmgaafaaDoor.Av

namespace Go.Proofs.YtodkhgofmgaafaaDoor.Av
open Go Go.ChangeShapes Go.WideShapes
set_option linter.all false
set_option maxRecDepth 3000

/-! a law whose code reads some of the package's variables -/
/-- a variable that is an array of words, as its reading says -/
theorem sat_u32s {P : Program} {W : World} {name : String} {g t e n : Nat} (hg : P.globalNamed name = some g) (hty : (P.globals[g]?).map (·.type) = some t) (ht : P.underlying t = some (.array n e)) (he : P.underlying e = some (.int .u32))
    (hc : P.cellsOf e = 1) (hs : P.cellsOf t = n) {l : List (BitVec 32)} (hl : l.length = n) (h : Lib.VarReads P W name (.agg (l.map fun b => .lit (.int .u32 b.toNat)))) :
    SatE (fun _ => none) ⟨.arr n .cell, .u32s l, false⟩ ⟨g, 0, n, .arr n .cell⟩ W := by
  obtain ⟨g', t', cs, fuel, p, q1, q2, q3, q4⟩ := h
  obtain rfl := Option.some.inj (hg.symm.trans q1)
  obtain rfl := Option.some.inj (hty.symm.trans q2)
  have hcs : cs.toList = (l.map fun b => (b.toNat : Int)).map fun z => Value.int .u32 z := by
    have q5 : DataW.trod (fun _ => ()) P W 0 (fun _ => true) false fuel t cs.toList = some (Lib.tabData .u32 (l.map fun b => (b.toNat : Int)), p) := by
      rw [q4]; unfold Lib.tabData; rw [List.map_map]; rfl
    exact Lib.cells_of_tab ht he hc hs q5
  simp only [World.var?, hg, Option.bind_some] at q3
  split at q3 <;> try contradiction
  rename_i C T fr hC
  cases q3
  have hlen : cs.size = n := by
    have := congrArg List.length hcs
    simpa [hl] using this
  refine ⟨rfl, trivial, hl, cs, T, fr, [], cs.toList, [], hC, by simp, rfl, hlen, ?_, fun h => by cases h⟩
  rw [hcs, List.map_map]
  show All2 _ (l.map D.u32) _
  have : ∀ l : List (BitVec 32), All2 (RepS (fun _ => none)) (l.map D.u32) (l.map ((fun z => Value.int .u32 z) ∘ fun b => (b.toNat : Int))) := by
    intro l
    induction l with
    | nil => trivial
    | cons a r ih => exact ⟨rfl, ih⟩
  exact this l

section
variable {H : Type} {enc : TypeId × Value → H} {P : Program}
end
end Go.Proofs.YtodkhgofmgaafaaDoor.Av

namespace Go.Proofs.YtodkhgofmgaafaaDoor.Av
open Go Go.ChangeShapes Go.WideShapes
set_option linter.all false
set_option maxRecDepth 3000

/-! plain data of any shape: its values, told by its type alone -/
def canEs (F : TypeId → D → Prop) : List TypeId → List D → Prop
  | [], [] => True
  | t :: ts, d :: ds => F t d ∧ canEs F ts ds
  | _, _ => False

def oddB (P : Program) (e : TypeId) : Nat := match P.underlying e with
  | some (.int .u8) => 1
  | some (.int .u32) => 2
  | some (.int .u64) => 2
  | _ => 0
theorem oddB_one {P : Program} {e : TypeId} (h : oddB P e = 1) : P.underlying e = some (.int .u8) := by
  unfold oddB at h
  split at h
  · assumption
  all_goals omega
def canE (P : Program) : Nat → TypeId → D → Prop
  | 0, _, _ => False
  | n + 1, t, x => match P.underlying t with
    | some .bool => ∃ b, x = .bool b
    | some (.int .u8) => ∃ b, x = .u8 b
    | some (.int .u16) => ∃ b, x = .u16 b
    | some (.int .u32) => ∃ b, x = .u32 b
    | some (.int .u64) => ∃ b, x = .u64 b
    | some (.int .i64) => ∃ b : Int, x = .i64 b ∧ -9223372036854775808 ≤ b ∧ b < 9223372036854775808
    | some (.array c e) => match oddB P e with
      | 1 => ∃ l, x = .u8s l ∧ l.length = c
      | _ => ∃ l, x = .node l ∧ l.length = c ∧ AllD (canE P n e) l
    | some (.struct fs) => ∃ l, x = .node l ∧ canEs (canE P n) (fs.toList.map (·.type)) l
    | _ => False

theorem rep_u16 {ρ : Env} {n : Int} (h : (Lit.int .u16 n).wf = true) : Rep ρ (.u16 (BitVec.ofNat 16 n.toNat)) (.int .u16 n) := by
  simp only [Lit.wf, Bool.and_eq_true, decide_eq_true_eq] at h
  have h1 : (0 : Int) ≤ n := h.1
  have h2 : n < 65536 := by
    have := h.2
    have e : IntKind.u16.max = 65535 := by decide
    omega
  show Value.int _ _ = .int _ _
  congr 1
  simp; omega
theorem rep_u32 {ρ : Env} {n : Int} (h : (Lit.int .u32 n).wf = true) : Rep ρ (.u32 (BitVec.ofNat 32 n.toNat)) (.int .u32 n) := by
  simp only [Lit.wf, Bool.and_eq_true, decide_eq_true_eq] at h
  have h1 : (0 : Int) ≤ n := h.1
  have h2 : n < 4294967296 := by
    have := h.2
    have e : IntKind.u32.max = 4294967295 := by decide
    omega
  show Value.int _ _ = .int _ _
  congr 1
  simp; omega
theorem rep_i64 {n : Int} (h : (Lit.int .i64 n).wf = true) : -9223372036854775808 ≤ n ∧ n < 9223372036854775808 := by
  simp only [Lit.wf, Bool.and_eq_true, decide_eq_true_eq] at h
  have h1 : IntKind.i64.min ≤ n := h.1
  have e1 : IntKind.i64.min = -9223372036854775808 := by decide
  have e : IntKind.i64.max = 9223372036854775807 := by decide
  have h2 : n ≤ IntKind.i64.max := h.2
  omega

/-- fields one behind the other, from o on -/
def inRow (P : Program) : List Field → Nat → Nat → Bool
  | [], o, e => o == e
  | f :: fs, o, e => f.offset == o && inRow P fs (o + P.cellsOf f.type) e

def flatT (P : Program) : Nat → TypeId → Bool
  | 0, _ => false
  | n + 1, t => match P.underlying t with
    | some .bool => true
    | some (.int .u8) => true
    | some (.int .u16) => true
    | some (.int .u32) => true
    | some (.int .u64) => true
    | some (.int .i64) => true
    | some (.array c e) => match oddB P e with
      | 0 => P.cellsOf t == c * P.cellsOf e && flatT P n e
      | 1 => P.cellsOf e == 1 && P.cellsOf t == c
      | _ => false
    | some (.struct fs) => inRow P fs.toList 0 (P.cellsOf t) && fs.toList.all (fun f => flatT P n f.type)
    | _ => false

section
variable {H : Type} {enc : TypeId × Value → H} {P : Program}

theorem mapM_rows {α : Type} (F : TypeId → D → Prop) (g g' : α → Option (DataW H × List MemPlace)) (ty : α → TypeId) (chunk : α → List Value) : ∀ (l : List α) (r : List (DataW H × List MemPlace)), l.mapM g = some r →
    (∀ a ∈ l, ∀ y, g a = some y → y.2 = [] ∧ g' a = some y ∧ ∃ d, F (ty a) d ∧ ∀ ρ, All2 (RepS ρ) d.flat (chunk a)) →
    l.mapM g' = some r ∧ r.flatMap (·.2) = [] ∧ ∃ ds : List D, ds.length = l.length ∧ canEs F (l.map ty) ds ∧ ∀ ρ, All2 (RepS ρ) (D.flats ds) (l.flatMap chunk)
  | [], r, h, _ => by
    simp at h; subst h
    exact ⟨rfl, rfl, [], rfl, trivial, fun _ => trivial⟩
  | a :: l, r, h, hg => by
    rw [List.mapM_cons] at h ⊢
    simp only [bind, Option.bind_eq_some_iff, pure, Option.some.injEq] at h
    obtain ⟨y, hy, ys, hys, rfl⟩ := h
    obtain ⟨h1, h2, d, h3, h4⟩ := hg a (by simp) y hy
    obtain ⟨k1, k2, ds, k3, k4, k5⟩ := mapM_rows F g g' ty chunk l ys hys (fun b hb => hg b (by simp [hb]))
    rw [h2, k1]
    refine ⟨rfl, by rw [List.flatMap_cons, h1, k2]; rfl, d :: ds, by simp [k3], ⟨h3, k4⟩, fun ρ => ?_⟩
    rw [List.flatMap_cons]
    exact (h4 ρ).append (k5 ρ)

theorem inRow_cells (cs : List Value) : ∀ (fs : List Field) (o e : Nat), inRow P fs o e = true → e = cs.length → fs.flatMap (fun f => (cs.drop f.offset).take (P.cellsOf f.type)) = cs.drop o
  | [], o, e, h, he => by
    simp only [inRow, beq_iff_eq] at h
    rw [h, he, List.drop_length]; rfl
  | f :: fs, o, e, h, he => by
    simp only [inRow, Bool.and_eq_true, beq_iff_eq] at h
    rw [List.flatMap_cons, inRow_cells cs fs _ e h.2 he, h.1, ← List.drop_drop, List.take_append_drop]

theorem canEs_rep (F : TypeId → D → Prop) (e : TypeId) : ∀ (n : Nat) (ds : List D), canEs F (List.replicate n e) ds → ds.length = n ∧ AllD (F e) ds
  | 0, [], _ => ⟨rfl, trivial⟩
  | n + 1, d :: ds, h => by
    obtain ⟨h1, h2⟩ := canEs_rep F e n ds h.2
    exact ⟨by simp [h1], h.1, h2⟩
  | 0, _ :: _, h => h.elim
  | n + 1, [], h => h.elim

theorem range_chunks {α : Type} (c : Nat) : ∀ (n : Nat) (cs : List α), cs.length = n * c → (List.range n).flatMap (fun i => (cs.drop (i * c)).take c) = cs
  | 0, cs, h => by
    have : cs = [] := List.length_eq_zero_iff.1 (by omega)
    rw [this]; rfl
  | n + 1, cs, h => by
    rw [List.range_succ_eq_map, List.flatMap_cons, List.flatMap_map]
    have e := range_chunks c n (cs.drop c) (by rw [List.length_drop, h, Nat.add_mul]; omega)
    have : (fun i => ((cs.drop c).drop (i * c)).take c) = (fun i => (cs.drop ((i + 1) * c)).take c) := by
      funext i
      rw [List.drop_drop]
      congr 2
      rw [Nat.add_mul]; omega
    rw [this] at e
    rw [Nat.zero_mul, List.drop_zero, e, List.take_append_drop]

theorem trod_flat : ∀ (n : Nat) {t : TypeId} (_ : flatT P n t = true) {W : World} {base fuel : Nat} {sp : Nat → Bool} {held : Bool} {cs : List Value} {y : DataW H × List MemPlace}, DataW.trod enc P W base sp held fuel t cs = some y →
    y.2 = [] ∧ (∃ d, canE P n t d ∧ ∀ ρ, All2 (RepS ρ) d.flat cs) ∧ ∀ (W' : World) (base' : Nat) (sp' : Nat → Bool) (held' : Bool), DataW.trod enc P W' base' sp' held' fuel t cs = some y := by
  intro n
  induction n with
  | zero => intro t h; cases h
  | succ n ih =>
    intro t h W base fuel sp held cs y hd
    cases hu : P.underlying t with
    | none => simp [flatT, hu] at h
    | some T =>
      have int : ∀ {k : IntKind} (_ : T = .int k) (_ : ∀ z, (Lit.int k z).wf = true → ∃ d, canE P (n + 1) t d ∧ ∀ ρ, All2 (RepS ρ) d.flat [.int k z]),
          y.2 = [] ∧ (∃ d, canE P (n + 1) t d ∧ ∀ ρ, All2 (RepS ρ) d.flat cs) ∧ ∀ (W' : World) (base' : Nat) (sp' : Nat → Bool) (held' : Bool), DataW.trod enc P W' base' sp' held' fuel t cs = some y := by
        intro k hT h1
        subst hT
        obtain ⟨a, rfl, rfl, e3⟩ := DataW.trod_int hu hd
        refine ⟨rfl, h1 a e3, fun W' base' sp' held' => ?_⟩
        cases fuel with
        | zero => simp [DataW.trod] at hd
        | succ m => simp [DataW.trod, hu, e3]
      cases T with
      | bool =>
        obtain ⟨b, rfl, rfl⟩ := DataW.trod_bool hu hd
        refine ⟨rfl, ⟨.bool b, by simp only [canE, hu]; exact ⟨b, rfl⟩, fun ρ => ⟨rfl, trivial⟩⟩, fun W' base' sp' held' => ?_⟩
        cases fuel with
        | zero => simp [DataW.trod] at hd
        | succ m => simp [DataW.trod, hu]
      | int k =>
        cases k with
        | u8 => exact int rfl fun z hz => ⟨.u8 (BitVec.ofNat 8 z.toNat), by simp only [canE, hu]; exact ⟨_, rfl⟩, fun ρ => ⟨rep_u8 (ρ := ρ) hz, trivial⟩⟩
        | u16 => exact int rfl fun z hz => ⟨.u16 (BitVec.ofNat 16 z.toNat), by simp only [canE, hu]; exact ⟨_, rfl⟩, fun ρ => ⟨rep_u16 (ρ := ρ) hz, trivial⟩⟩
        | u32 => exact int rfl fun z hz => ⟨.u32 (BitVec.ofNat 32 z.toNat), by simp only [canE, hu]; exact ⟨_, rfl⟩, fun ρ => ⟨rep_u32 (ρ := ρ) hz, trivial⟩⟩
        | u64 => exact int rfl fun z hz => ⟨.u64 (BitVec.ofNat 64 z.toNat), by simp only [canE, hu]; exact ⟨_, rfl⟩, fun ρ => ⟨rep_u64 (ρ := ρ) hz, trivial⟩⟩
        | i64 => exact int rfl fun z hz => ⟨.i64 z, by simp only [canE, hu]; exact ⟨_, rfl, (rep_i64 hz).1, (rep_i64 hz).2⟩, fun ρ => ⟨(show Value.int .i64 z = .int .i64 z ∧ _ from ⟨rfl, rep_i64 hz⟩), trivial⟩⟩
        | _ => simp [flatT, hu] at h
      | array c e =>
        by_cases he : oddB P e = 1
        · simp only [flatT, hu, he, Bool.and_eq_true, beq_iff_eq] at h
          obtain ⟨h1, ⟨l, h2, h3⟩, h4⟩ := trod_u8s hu (oddB_one he) h.1 h.2 hd
          exact ⟨h1, ⟨.u8s l, by simp only [canE, hu, he]; exact ⟨l, rfl, h2⟩, h3⟩, h4⟩
        · have he0 : oddB P e = 0 := by
            simp only [flatT, hu] at h
            split at h
            · assumption
            · contradiction
            · cases h
          simp only [flatT, hu, he0, Bool.and_eq_true, beq_iff_eq] at h
          cases fuel with
          | zero => simp [DataW.trod] at hd
          | succ m =>
            have hd0 := hd
            unfold DataW.trod at hd
            rw [hu] at hd
            simp only at hd
            split at hd
            rotate_left
            · cases hd
            rename_i hlen
            rw [Option.map_eq_some_iff] at hd
            obtain ⟨xs, hx, rfl⟩ := hd
            have hs : cs.length = c * P.cellsOf e := by rw [hlen, h.1]
            obtain ⟨_, k2, ds, k3, k4, k5⟩ := mapM_rows (canE P n) _ (fun i => DataW.trod enc P W base sp held m e ((cs.drop (i * P.cellsOf e)).take (P.cellsOf e))) (fun _ => e) (fun i => (cs.drop (i * P.cellsOf e)).take (P.cellsOf e)) _ _ hx (fun i _ z hz => by
              obtain ⟨h1, h2, h3⟩ := ih h.2 hz
              exact ⟨h1, hz, h2⟩)
            rw [List.map_const', List.length_range] at k4
            obtain ⟨k6, k7⟩ := canEs_rep (canE P n) e c ds k4
            refine ⟨k2, ⟨.node ds, ?_, fun ρ => ?_⟩, fun W' base' sp' held' => ?_⟩
            · simp only [canE, hu, he0]
              exact ⟨ds, rfl, k6, k7⟩
            · have := k5 ρ
              rw [range_chunks _ _ cs hs] at this
              exact this
            · obtain ⟨j1, _⟩ := mapM_rows (canE P n) _ (fun i => DataW.trod enc P W' base' sp' held' m e ((cs.drop (i * P.cellsOf e)).take (P.cellsOf e))) (fun _ => e) (fun i => (cs.drop (i * P.cellsOf e)).take (P.cellsOf e)) _ _ hx (fun i _ z hz => by
                obtain ⟨h1, h2, h3⟩ := ih h.2 hz
                exact ⟨h1, h3 W' base' sp' held', h2⟩)
              unfold DataW.trod
              rw [hu]
              simp only
              rw [if_pos hlen, j1]
              rfl
      | struct fs =>
        simp only [flatT, hu, Bool.and_eq_true, List.all_eq_true] at h
        cases fuel with
        | zero => simp [DataW.trod] at hd
        | succ m =>
          have hd0 := hd
          unfold DataW.trod at hd
          rw [hu] at hd
          simp only at hd
          split at hd
          rotate_left
          · cases hd
          rename_i hlen
          rw [Option.map_eq_some_iff] at hd
          obtain ⟨xs, hx, rfl⟩ := hd
          obtain ⟨_, k2, ds, k3, k4, k5⟩ := mapM_rows (canE P n) _ (fun f => DataW.trod enc P W base sp held m f.type ((cs.drop f.offset).take (P.cellsOf f.type))) (fun f => f.type) (fun f => (cs.drop f.offset).take (P.cellsOf f.type)) _ _ hx (fun f hf z hz => by
            obtain ⟨h1, h2, h3⟩ := ih (h.2 f hf) hz
            exact ⟨h1, hz, h2⟩)
          refine ⟨k2, ⟨.node ds, ?_, fun ρ => ?_⟩, fun W' base' sp' held' => ?_⟩
          · unfold canE
            rw [hu]
            exact ⟨ds, rfl, k4⟩
          · have := k5 ρ
            rw [inRow_cells cs fs.toList 0 _ h.1 hlen.symm] at this
            exact this
          · obtain ⟨j1, _⟩ := mapM_rows (canE P n) _ (fun f => DataW.trod enc P W' base' sp' held' m f.type ((cs.drop f.offset).take (P.cellsOf f.type))) (fun f => f.type) (fun f => (cs.drop f.offset).take (P.cellsOf f.type)) _ _ hx (fun f hf z hz => by
              obtain ⟨h1, h2, h3⟩ := ih (h.2 f hf) hz
              exact ⟨h1, h3 W' base' sp' held', h2⟩)
            unfold DataW.trod
            rw [hu]
            simp only
            rw [if_pos hlen, j1]
            rfl
      | _ => simp [flatT, hu] at h

/-- plain data by value: what it holds; it reads so anywhere -/
theorem open_flat (n : Nat) {t : TypeId} (ht : flatT P n t = true) {r : Reach} {b0 base : Nat} {W : World} {v : Value} {d : DataW H} {ps : List MemPlace} {sp : Nat → Bool} {held : Bool} (hval : Value.okWide P W r b0 t v)
    (hagg : (match P.underlying t with | some (.array _ _) => true | some (.struct _) => true | _ => false) = true) (hd : DataW.Trod enc P W base sp held t v d ps) :
    ∃ x, canE P n t x ∧ ps = [] ∧ (∀ ρ, All2 (RepS ρ) x.flat v.cells.toList ∧ ∃ xs, v = .agg xs) ∧ ∀ (W' : World) (base' : Nat) (sp' : Nat → Bool) (held' : Bool), DataW.Trod enc P W' base' sp' held' t v d [] := by
  obtain ⟨fuel, hf⟩ := hd
  obtain ⟨h1, ⟨x, h2, h3⟩, h4⟩ := trod_flat n ht hf
  have hps : ps = [] := h1
  subst hps
  have : ∃ xs, v = .agg xs := by
    cases hu : P.underlying t with
    | none => simp [hu] at hagg
    | some T =>
      cases T <;> simp [hu] at hagg
      all_goals
        simp only [Value.okWide, hu] at hval
        obtain ⟨xs, rfl, _⟩ := hval
        exact ⟨xs, rfl⟩
  exact ⟨x, h2, rfl, fun ρ => ⟨h3 ρ, this⟩, fun W' base' sp' held' => ⟨fuel, h4 W' base' sp' held'⟩⟩
end
end Go.Proofs.YtodkhgofmgaafaaDoor.Av

namespace Go.Proofs.YtodkhgofmgaafaaDoor.Av
open Go Go.ChangeShapes Go.WideShapes
set_option linter.all false
set_option maxRecDepth 3000

/-! a law that reads a row of bytes, and some of the package's variables -/
/-- no bytes at all lie anywhere -/
theorem sat_none {e : Ent} {L : Loc} {W : World} (h : SatE (fun _ => none) e L W) : SatE (fun _ => none) ⟨.row .cell, .u8s [], false⟩ ⟨L.blk, 0, L.n, .row .cell⟩ W := by
  obtain ⟨q1, q2, q3, C, t, fr, pre, front, tail, q4, q5, q6, q7, q8, q9⟩ := h
  exact ⟨rfl, trivial, trivial, C, t, fr, [], [], C.toList, q4, by simp, rfl, q7, trivial, fun h => by cases h⟩
end Go.Proofs.YtodkhgofmgaafaaDoor.Av

namespace Go.Proofs.YtodkhgofmgaafaaDoor.Av
open Go Go.ChangeShapes Go.WideShapes
set_option linter.all false
set_option maxRecDepth 3000

/-! a law that reads some rows of bytes, and some of the package's variables -/
theorem calls_bool_n {P : Program} {f : Nat} {args : List D} {m0 : Mem} {np : Nat} (hnp : np ≤ 1000) (h : AC P f args np m0 ⟨.bool true, [], []⟩) {W : World} {vals : List Value} {loc : Nat → Loc} (hv : All2 (Rep (fun i => if i < np then some (loc i) else none)) args vals)
    (hm : ∀ i e, get m0 i = some e → e.rw = false ∧ ((i < np ∧ SatE (fun _ => none) e (loc i) W) ∨ ∃ g, i = gid g ∧ ∃ L : Loc, (L.blk = g ∧ L.base = 0) ∧ SatE (fun _ => none) e L W)) :
    Calls P f vals.toArray W fun e W' => e = .returned (.bool true) ∧ W'.os = W.os ∧ W'.output = W.output ∧ W.heap.size ≤ W'.heap.size ∧ ∀ b, b < W.heap.size → W'.heap[b]? = W.heap[b]? := by
  have hgi : ∀ {a b : Nat}, gid a = gid b → a = b := fun h => by unfold gid at h; omega
  have hg0 : ∀ g, ¬ gid g < np := fun g => by unfold gid; omega
  have hm2 : ∀ i e, get m0 i = some e → ¬ i < np → ∃ g, i = gid g ∧ ∃ L : Loc, (L.blk = g ∧ L.base = 0) ∧ SatE (fun _ => none) e L W := fun i e hi h0 => by
    rcases (hm i e hi).2 with ⟨h1, _⟩ | h1
    · exact absurd h1 h0
    · exact h1
  let ρ0 : Env := fun i => if h0 : i < np then some (loc i) else @dite _ (∃ e, get m0 i = some e) (Classical.propDecidable _) (fun hi => some (hm2 i hi.choose hi.choose_spec h0).choose_spec.2.choose) (fun _ => none)
  have hle : Env.le (fun _ => none) ρ0 := fun i L h => by cases h
  have hle0 : Env.le (fun i => if i < np then some (loc i) else none) ρ0 := fun i L h => by
    have h : (if i < np then some (loc i) else none) = some L := h
    split at h
    · rename_i h0
      show dite _ _ _ = _
      rw [dif_pos h0]; exact h
    · cases h
  have h00 : ∀ i, i < np → ρ0 i = some (loc i) := fun i h => dif_pos h
  have hρ : ∀ i e, get m0 i = some e → ¬ i < np → ∃ g L, i = gid g ∧ ρ0 i = some L ∧ (L.blk = g ∧ L.base = 0) ∧ SatE (fun _ => none) e L W := fun i e hi h0 => by
    have hx : ∃ e, get m0 i = some e := ⟨e, hi⟩
    have he : hx.choose = e := Option.some.inj (hx.choose_spec.symm.trans hi)
    have hs := (hm2 i hx.choose hx.choose_spec h0).choose_spec.2.choose_spec
    have hg := (hm2 i hx.choose hx.choose_spec h0).choose_spec.1
    refine ⟨_, _, hg, (dif_neg h0).trans (dif_pos hx), hs.1, ?_⟩
    have h2 := hs.2
    generalize (hm2 i hx.choose hx.choose_spec h0).choose_spec.2.choose = L at h2
    rw [he] at h2
    exact h2
  have hno : ∀ i L, ρ0 i = some L → ¬ i < np → ∃ e, get m0 i = some e := fun i L hi h0 => by
    by_cases hx : ∃ e, get m0 i = some e
    · exact hx
    · have : ρ0 i = none := (dif_neg h0).trans (dif_neg hx)
      rw [this] at hi; cases hi
  have hsat : ∀ i e, get m0 i = some e → ∃ L, ρ0 i = some L ∧ SatE ρ0 e L W := fun i e hi => by
    by_cases h0 : i < np
    · rcases (hm i e hi).2 with ⟨_, h1⟩ | ⟨g, h1, _⟩
      · exact ⟨loc i, h00 i h0, h1.mono hle⟩
      · exact absurd (h1 ▸ h0) (hg0 g)
    · obtain ⟨g', L', h1, h2, h3, h4⟩ := hρ i e hi h0
      exact ⟨L', h2, h4.mono hle⟩
  refine (h.2 ρ0 W vals (hv.mono fun a b hab => Rep.mono hle0 hab)
    ⟨fun g L h' => ?_, hsat, fun i j ei ej Li Lj hi hj hne hr => ?_, fun i e L' hi hr => ?_, fun _ _ _ => rfl, Nat.le_refl _, rfl, rfl, rfl⟩ (fun i hi => ?_)).mono fun e W' ⟨v, ρ', he, _, _, hr, hI⟩ => ?_
  · obtain ⟨e, he⟩ := hno _ _ h' (hg0 g)
    obtain ⟨g', L', h1, h2, h3, _⟩ := hρ _ e he (hg0 g)
    rw [h'] at h2; cases h2
    rw [hgi h1]; exact h3
  · rw [(hm i ei hi).1] at hr; cases hr
  · rw [(hm i e hi).1] at hr; cases hr
  · by_cases h0 : i < np
    · exact .inl h0
    · cases hL : ρ0 i with
      | none => exact absurd hL hi
      | some L =>
        obtain ⟨e, he⟩ := hno _ _ hL h0
        obtain ⟨g', L', h1, _⟩ := hρ _ e he h0
        right; rw [h1]; unfold gid; omega
  · have hr : v = .bool true := hr
    subst hr
    refine ⟨he, hI.os, hI.out, hI.size, fun b hb => hI.ext b hb (fun ⟨i, e, L', h1, h2, _⟩ => ?_)⟩
    rw [(hm i e h1).1] at h2; cases h2


section
variable {H : Type} {enc : TypeId × Value → H} {P : Program}
/-- .. and how many it may be -/
theorem open_slD2 {t e : TypeId} (ht : P.underlying t = some (.slice e)) (he : P.underlying e = some (.int .u8)) (hc : P.cellsOf e = 1) {r : Reach} {b0 : Nat} {W : World} {v : Value} {d : DataW H} {ps : List MemPlace} {L9 : Loc}
    (h9 : SatE (fun _ => none) ⟨.row .cell, .u8s [], false⟩ L9 W) (hval : Value.okWide P W r b0 t v) (hd : DataW.Trod enc P W 0 (fun _ => true) true t v d ps) :
    ∃ (l : List (BitVec 8)) (L : Loc) (x : Option Nat), (x = none → l.length = 0) ∧ SatE (fun _ => none) ⟨.row .cell, .u8s l, false⟩ L W ∧ (∀ (ρ : Env) (i : Nat), ρ i = some L → Rep ρ (slD i l.length x) v) ∧
      (∀ (W' : World) (sp : Nat → Bool), (∀ b, b < W.heap.size → W'.heap[b]? = W.heap[b]?) → (∀ p ∈ ps, sp p.block = true) → DataW.Trod enc P W' 0 sp true t v d ps) ∧ (l.length = 0 ∨ ∃ es sp, d = .slice es sp ∧ es.length = l.length) := by
  rcases open_slice ht he hc hval hd with ⟨rfl, rfl, hst⟩ | ⟨l, L, cap, hcap, hcap2, hsat, hrep, hst, hes⟩
  · exact ⟨[], L9, none, fun _ => rfl, h9, fun ρ i _ => rfl, fun W' sp _ _ => hst W' sp, .inl rfl⟩
  · exact ⟨l, L, some cap, fun h => (nomatch h), hsat, hrep, hst, .inr hes⟩
end
end Go.Proofs.YtodkhgofmgaafaaDoor.Av
