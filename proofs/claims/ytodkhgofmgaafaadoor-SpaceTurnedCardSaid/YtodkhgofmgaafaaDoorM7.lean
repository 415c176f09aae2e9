import Derived.Test.YtodkhgofmgaafaaDoorM6
import Derived.Test.YtodkhgofmgaafaaDoorM4
import Derived.ProofKit
import Derived.OpenShut
import Derived.Lib.LaidU8
import Derived.Lay
import Derived.MakeChecks
import Derived.ChangeSlices
import Derived.ChangeSame
namespace Go.Proofs.YtodkhgofmgaafaaDoor.Av
open Go
set_option linter.all false
set_option maxRecDepth 3000

/-! a node, read: printed by gen_dwb.py -/
def badR (bs : List (BitVec 8)) (o : Nat) : Bool := decide (u4G bs o = 0) && !decide ((bs.drop (o + 4)).take 32 = zB 32)
def nodeG (bs : List (BitVec 8)) : D := (D.node [refD (u4G bs 0) ((bs.drop 4).take 32), refD (u4G bs 36) ((bs.drop 40).take 32), refD (u4G bs 72) ((bs.drop 76).take 32), refD (u4G bs 108) ((bs.drop 112).take 32), refD (u4G bs 144) ((bs.drop 148).take 32), refD (u4G bs 180) ((bs.drop 184).take 32), refD (u4G bs 216) ((bs.drop 220).take 32), refD (u4G bs 252) ((bs.drop 256).take 32)])
def badN (bs : List (BitVec 8)) : Bool := badR bs 0 || badR bs 36 || badR bs 72 || badR bs 108 || badR bs 144 || badR bs 180 || badR bs 216 || badR bs 252
def getN (bs : List (BitVec 8)) : D × Int := bif badN bs then (node0, 4) else (nodeG bs, 0)
def nodeI (bs : List (BitVec 8)) : Nat → D
  | 0 => (D.node [refD 0 (zB 32), refD 0 (zB 32), refD 0 (zB 32), refD 0 (zB 32), refD 0 (zB 32), refD 0 (zB 32), refD 0 (zB 32), refD 0 (zB 32)])
  | 1 => (D.node [refD (u4G bs 0) ((bs.drop 4).take 32), refD 0 (zB 32), refD 0 (zB 32), refD 0 (zB 32), refD 0 (zB 32), refD 0 (zB 32), refD 0 (zB 32), refD 0 (zB 32)])
  | 2 => (D.node [refD (u4G bs 0) ((bs.drop 4).take 32), refD (u4G bs 36) ((bs.drop 40).take 32), refD 0 (zB 32), refD 0 (zB 32), refD 0 (zB 32), refD 0 (zB 32), refD 0 (zB 32), refD 0 (zB 32)])
  | 3 => (D.node [refD (u4G bs 0) ((bs.drop 4).take 32), refD (u4G bs 36) ((bs.drop 40).take 32), refD (u4G bs 72) ((bs.drop 76).take 32), refD 0 (zB 32), refD 0 (zB 32), refD 0 (zB 32), refD 0 (zB 32), refD 0 (zB 32)])
  | 4 => (D.node [refD (u4G bs 0) ((bs.drop 4).take 32), refD (u4G bs 36) ((bs.drop 40).take 32), refD (u4G bs 72) ((bs.drop 76).take 32), refD (u4G bs 108) ((bs.drop 112).take 32), refD 0 (zB 32), refD 0 (zB 32), refD 0 (zB 32), refD 0 (zB 32)])
  | 5 => (D.node [refD (u4G bs 0) ((bs.drop 4).take 32), refD (u4G bs 36) ((bs.drop 40).take 32), refD (u4G bs 72) ((bs.drop 76).take 32), refD (u4G bs 108) ((bs.drop 112).take 32), refD (u4G bs 144) ((bs.drop 148).take 32), refD 0 (zB 32), refD 0 (zB 32), refD 0 (zB 32)])
  | 6 => (D.node [refD (u4G bs 0) ((bs.drop 4).take 32), refD (u4G bs 36) ((bs.drop 40).take 32), refD (u4G bs 72) ((bs.drop 76).take 32), refD (u4G bs 108) ((bs.drop 112).take 32), refD (u4G bs 144) ((bs.drop 148).take 32), refD (u4G bs 180) ((bs.drop 184).take 32), refD 0 (zB 32), refD 0 (zB 32)])
  | 7 => (D.node [refD (u4G bs 0) ((bs.drop 4).take 32), refD (u4G bs 36) ((bs.drop 40).take 32), refD (u4G bs 72) ((bs.drop 76).take 32), refD (u4G bs 108) ((bs.drop 112).take 32), refD (u4G bs 144) ((bs.drop 148).take 32), refD (u4G bs 180) ((bs.drop 184).take 32), refD (u4G bs 216) ((bs.drop 220).take 32), refD 0 (zB 32)])
  | _ => nodeG bs
theorem getN_bad {bs : List (BitVec 8)} {i : Nat} (hi : i < 8) (h : badR bs (36 * i) = true) : getN bs = (node0, 4) := by
  have : badN bs = true := by
    unfold badN
    have : i = 0 ∨ i = 1 ∨ i = 2 ∨ i = 3 ∨ i = 4 ∨ i = 5 ∨ i = 6 ∨ i = 7 := by omega
    rcases this with rfl | rfl | rfl | rfl | rfl | rfl | rfl | rfl <;> (have h' := h; simp only [Nat.mul_zero, Nat.mul_one, Nat.reduceMul] at h'; simp only [h', Bool.true_or, Bool.or_true])
  unfold getN; rw [this]; rfl
theorem getN_end {bs : List (BitVec 8)} (h : ∀ j, j < 8 → badR bs (36 * j) = false) : getN bs = (nodeG bs, 0) := by
  have : badN bs = false := by
    unfold badN
    have h0 := h 0 (by decide); have h1 := h 1 (by decide); have h2 := h 2 (by decide); have h3 := h 3 (by decide)
    have h4 := h 4 (by decide); have h5 := h 5 (by decide); have h6 := h 6 (by decide); have h7 := h 7 (by decide)
    simp only [Nat.mul_zero, Nat.mul_one, Nat.reduceMul] at h0 h1 h2 h3 h4 h5 h6 h7
    rw [h0, h1, h2, h3, h4, h5, h6, h7]; rfl
  unfold getN; rw [this]; rfl
theorem ref_eqb (a : BitVec 32) (s : List (BitVec 8)) : (refD a s).eqb (refD 0 (zB 32)) = (decide (a = 0) && decide (s = zB 32)) := by
  show (decide (a = 0) && (decide (s = zB 32) && true)) = _
  rw [Bool.and_true]
theorem win32 {l y : List (BitVec 8)} (hl : l.length = 32) (hy : y.length = 32) : l.take 0 ++ (y.drop 0).take 32 ++ l.drop (0 + 32) = y := by
  rw [List.take_zero, List.nil_append, Nat.zero_add, List.drop_of_length_le (l := l) (by omega), List.append_nil, List.drop_zero, List.take_of_length_le (by omega)]
theorem goodI {bs : List (BitVec 8)} {i : Nat} {R : D × Int} (hi : (∀ j, j < i → badR bs (36 * j) = false) ∧ badR bs (36 * i) = false) : ∀ j, j < i + 1 → badR bs (36 * j) = false := fun j hj => by
  rcases Nat.lt_or_eq_of_le (Nat.le_of_lt_succ hj) with h' | h'
  · exact hi.1 j h'
  · exact h' ▸ hi.2
abbrev tNd : Ty := .arr 8 tRef

set_option maxHeartbeats 4000000 in
theorem nget_ac (bs : List (BitVec 8)) (hb : 288 ≤ bs.length) :
    AC Tryd.prog 85 [.slice 0 [] 0 288 none] 1 [(0, some ⟨.row .cell, .u8s bs, false⟩)] ⟨.tup [(getN bs).1, .i64 (getN bs).2], [], []⟩ := by
  obtain ⟨R, hR⟩ : ∃ R, getN bs = R := ⟨_, rfl⟩
  rw [hR]
  have hr := readr_ac bs 0 288 none
  have e1 := rerr_ac bs 288 0 none
  have e2 := rleft_ac bs 288 0 none
  refine acA tab mix Tryd.func85 {} ?_
  repeat first | refine EffG.mk (obA ?_) | refine obA ?_ | refine chkA ?_ | refine brY ?_ | refine brN ?_
  refine callA hr [0] ?_
  repeat first | refine EffG.mk (obA ?_) | refine obA ?_ | refine chkA ?_ | refine brY ?_ | refine brN ?_
  refine loopG (Nat × D) (fun y => [(2, .ptr 1 []), (4, .ptr 2 []), (5, .ptr 3 []), (10, .i64 y.1)]) (fun y => [(0, some ⟨.row .cell, .u8s bs, false⟩), (1, some ⟨tNd, node0, true⟩), (2, some ⟨tNd, y.2, true⟩), (3, some ⟨tRd, .node [.slice 0 [] (36 * y.1) (288 - 36 * y.1) none, .i64 0], true⟩)]) 4
    (fun y => y.1 ≤ 8 ∧ y.2 = nodeI bs y.1 ∧ ∀ j, j < y.1 → badR bs (36 * j) = false) (fun y => 8 - y.1) (0, nodeI bs 0) [0, 1, 2, 3] ⟨Nat.zero_le _, rfl, fun j h => absurd h (Nat.not_lt_zero _)⟩ viewA ?_
  rintro ⟨i, d⟩ hI
  obtain ⟨hi, hd, hall⟩ := hI
  have hi : i ≤ 8 := hi
  have hd : d = nodeI bs i := hd
  have hall : ∀ j, j < i → badR bs (36 * j) = false := hall
  have : i = 0 ∨ i = 1 ∨ i = 2 ∨ i = 3 ∨ i = 4 ∨ i = 5 ∨ i = 6 ∨ i = 7 ∨ i = 8 := by omega
  rcases this with rfl | rfl | rfl | rfl | rfl | rfl | rfl | rfl | rfl
  · have c := ru32_ac bs 0 288 none (by decide) (by omega)
    have t := take_ac bs 4 32 284 none (by decide) (by omega) (by decide)
    subst hd
    have l : ((bs.drop 4).take 32).length = 32 := by rw [List.length_take, List.length_drop]; omega
    have hb : badR bs (36 * 0) = (decide (u4G bs 0 = 0) && !decide ((bs.drop 4).take 32 = zB 32)) := rfl
    have hx := getN_bad (bs := bs) (i := 0) (by decide)
    rw [hb, hR] at hx
    have hy : nodeI bs 1 = (D.node [refD (u4G bs 0) ((bs.drop 4).take 32), refD 0 (zB 32), refD 0 (zB 32), refD 0 (zB 32), refD 0 (zB 32), refD 0 (zB 32), refD 0 (zB 32), refD 0 (zB 32)]) := rfl
    skip
    generalize (bs.drop 4).take 32 = s at t l hb hx hy
    generalize u4G bs 0 = a at c hb hx hy
    repeat first | refine EffG.mk (obA ?_) | refine obA ?_ | refine chkA ?_ | refine brY ?_ | refine brN ?_
    refine callA c [0, 3] ?_
    iterate 2 (first | refine EffG.mk (obA ?_) | refine obA ?_ | refine chkA ?_)
    refine storeG (D.node [refD a (zB 32), refD 0 (zB 32), refD 0 (zB 32), refD 0 (zB 32), refD 0 (zB 32), refD 0 (zB 32), refD 0 (zB 32), refD 0 (zB 32)]) rfl rfl rfl rfl rfl rfl rfl rfl rfl ⟨(show 0 < 8 from by decide), trivial⟩ rfl ?_
    repeat first | refine EffG.mk (obA ?_) | refine obA ?_ | refine chkA ?_
    refine callA t [0, 3] ?_
    skip
    refine copyG (D.node [refD a s, refD 0 (zB 32), refD 0 (zB 32), refD 0 (zB 32), refD 0 (zB 32), refD 0 (zB 32), refD 0 (zB 32), refD 0 (zB 32)]) rfl rfl rfl rfl rfl rfl rfl rfl rfl rfl rfl rfl rfl rfl rfl (by decide) rfl rfl ?_ ⟨by omega, trivial⟩ ⟨(show 0 < 8 from by decide), (by decide : 0 + 32 ≤ (List.replicate 32 (0 : BitVec 8)).length), trivial⟩ ?_ ?_
    · exact congrArg (fun x => some (D.node [refD a x, refD 0 (zB 32), refD 0 (zB 32), refD 0 (zB 32), refD 0 (zB 32), refD 0 (zB 32), refD 0 (zB 32), refD 0 (zB 32)])) (win32 (l := zB 32) (y := s) rfl l)
    · show (List.take 32 (List.drop 0 s)).length = 32
      rw [List.drop_zero, List.length_take]; omega
    repeat first | refine EffG.mk (obA ?_) | refine obA ?_ | refine chkA ?_
    by_cases qa : a = 0
    · refine Br.yes (decide_eq_true qa) ?_
      by_cases qs : s = zB 32
      · subst qs
        subst qa
        repeat first | refine EffG.mk (obA ?_) | refine obA ?_ | refine chkA ?_ | refine brY ?_ | refine brN ?_
        refine nextA (1, (D.node [refD 0 (zB 32), refD 0 (zB 32), refD 0 (zB 32), refD 0 (zB 32), refD 0 (zB 32), refD 0 (zB 32), refD 0 (zB 32), refD 0 (zB 32)])) [0, 1, 2, 3] viewA (h1 := ⟨Nat.le_of_ble_eq_true rfl, hy.symm, goodI (R := R) ⟨hall, by rw [hb]; rfl⟩⟩) (h2 := (by decide : 8 - 1 < 8 - 0))
      · have hx := hx (by rw [decide_eq_true qa, decide_eq_false qs]; rfl)
        subst hx
        repeat first | refine EffG.mk (obA ?_) | refine obA ?_ | refine chkA ?_ | refine brY ?_ | refine brN ?_
        refine brY ?_ (h := by show (!((refD a s).eqb (refD 0 (zB 32)))) = true; rw [ref_eqb, decide_eq_false qs, Bool.and_false]; rfl)
        repeat first | refine EffG.mk (obA ?_) | refine obA ?_ | refine chkA ?_ | refine brY ?_ | refine brN ?_
        refine retA [0]
    · refine brN ?_ (decide_eq_false qa)
      repeat first | refine EffG.mk (obA ?_) | refine obA ?_ | refine chkA ?_ | refine brY ?_ | refine brN ?_
      refine nextA (1, (D.node [refD a s, refD 0 (zB 32), refD 0 (zB 32), refD 0 (zB 32), refD 0 (zB 32), refD 0 (zB 32), refD 0 (zB 32), refD 0 (zB 32)])) [0, 1, 2, 3] viewA (h1 := ⟨Nat.le_of_ble_eq_true rfl, hy.symm, goodI (R := R) ⟨hall, by rw [hb, decide_eq_false qa]; rfl⟩⟩) (h2 := (by decide : 8 - 1 < 8 - 0))
  · have c := ru32_ac bs 36 252 none (by decide) (by omega)
    have t := take_ac bs 40 32 248 none (by decide) (by omega) (by decide)
    subst hd
    have l : ((bs.drop 40).take 32).length = 32 := by rw [List.length_take, List.length_drop]; omega
    have hb : badR bs (36 * 1) = (decide (u4G bs 36 = 0) && !decide ((bs.drop 40).take 32 = zB 32)) := rfl
    have hx := getN_bad (bs := bs) (i := 1) (by decide)
    rw [hb, hR] at hx
    have hy : nodeI bs 2 = (D.node [refD (u4G bs 0) ((bs.drop 4).take 32), refD (u4G bs 36) ((bs.drop 40).take 32), refD 0 (zB 32), refD 0 (zB 32), refD 0 (zB 32), refD 0 (zB 32), refD 0 (zB 32), refD 0 (zB 32)]) := rfl
    skip
    generalize (bs.drop 40).take 32 = s at t l hb hx hy
    generalize u4G bs 36 = a at c hb hx hy
    repeat first | refine EffG.mk (obA ?_) | refine obA ?_ | refine chkA ?_ | refine brY ?_ | refine brN ?_
    refine callA c [0, 3] ?_
    iterate 2 (first | refine EffG.mk (obA ?_) | refine obA ?_ | refine chkA ?_)
    refine storeG (D.node [refD (u4G bs 0) ((bs.drop 4).take 32), refD a (zB 32), refD 0 (zB 32), refD 0 (zB 32), refD 0 (zB 32), refD 0 (zB 32), refD 0 (zB 32), refD 0 (zB 32)]) rfl rfl rfl rfl rfl rfl rfl rfl rfl ⟨(show 1 < 8 from by decide), trivial⟩ rfl ?_
    repeat first | refine EffG.mk (obA ?_) | refine obA ?_ | refine chkA ?_
    refine callA t [0, 3] ?_
    skip
    refine copyG (D.node [refD (u4G bs 0) ((bs.drop 4).take 32), refD a s, refD 0 (zB 32), refD 0 (zB 32), refD 0 (zB 32), refD 0 (zB 32), refD 0 (zB 32), refD 0 (zB 32)]) rfl rfl rfl rfl rfl rfl rfl rfl rfl rfl rfl rfl rfl rfl rfl (by decide) rfl rfl ?_ ⟨by omega, trivial⟩ ⟨(show 1 < 8 from by decide), (by decide : 0 + 32 ≤ (List.replicate 32 (0 : BitVec 8)).length), trivial⟩ ?_ ?_
    · exact congrArg (fun x => some (D.node [refD (u4G bs 0) ((bs.drop 4).take 32), refD a x, refD 0 (zB 32), refD 0 (zB 32), refD 0 (zB 32), refD 0 (zB 32), refD 0 (zB 32), refD 0 (zB 32)])) (win32 (l := zB 32) (y := s) rfl l)
    · show (List.take 32 (List.drop 0 s)).length = 32
      rw [List.drop_zero, List.length_take]; omega
    repeat first | refine EffG.mk (obA ?_) | refine obA ?_ | refine chkA ?_
    by_cases qa : a = 0
    · refine Br.yes (decide_eq_true qa) ?_
      by_cases qs : s = zB 32
      · subst qs
        subst qa
        repeat first | refine EffG.mk (obA ?_) | refine obA ?_ | refine chkA ?_ | refine brY ?_ | refine brN ?_
        refine nextA (2, (D.node [refD (u4G bs 0) ((bs.drop 4).take 32), refD 0 (zB 32), refD 0 (zB 32), refD 0 (zB 32), refD 0 (zB 32), refD 0 (zB 32), refD 0 (zB 32), refD 0 (zB 32)])) [0, 1, 2, 3] viewA (h1 := ⟨Nat.le_of_ble_eq_true rfl, hy.symm, goodI (R := R) ⟨hall, by rw [hb]; rfl⟩⟩) (h2 := (by decide : 8 - 2 < 8 - 1))
      · have hx := hx (by rw [decide_eq_true qa, decide_eq_false qs]; rfl)
        subst hx
        repeat first | refine EffG.mk (obA ?_) | refine obA ?_ | refine chkA ?_ | refine brY ?_ | refine brN ?_
        refine brY ?_ (h := by show (!((refD a s).eqb (refD 0 (zB 32)))) = true; rw [ref_eqb, decide_eq_false qs, Bool.and_false]; rfl)
        repeat first | refine EffG.mk (obA ?_) | refine obA ?_ | refine chkA ?_ | refine brY ?_ | refine brN ?_
        refine retA [0]
    · refine brN ?_ (decide_eq_false qa)
      repeat first | refine EffG.mk (obA ?_) | refine obA ?_ | refine chkA ?_ | refine brY ?_ | refine brN ?_
      refine nextA (2, (D.node [refD (u4G bs 0) ((bs.drop 4).take 32), refD a s, refD 0 (zB 32), refD 0 (zB 32), refD 0 (zB 32), refD 0 (zB 32), refD 0 (zB 32), refD 0 (zB 32)])) [0, 1, 2, 3] viewA (h1 := ⟨Nat.le_of_ble_eq_true rfl, hy.symm, goodI (R := R) ⟨hall, by rw [hb, decide_eq_false qa]; rfl⟩⟩) (h2 := (by decide : 8 - 2 < 8 - 1))
  · have c := ru32_ac bs 72 216 none (by decide) (by omega)
    have t := take_ac bs 76 32 212 none (by decide) (by omega) (by decide)
    subst hd
    have l : ((bs.drop 76).take 32).length = 32 := by rw [List.length_take, List.length_drop]; omega
    have hb : badR bs (36 * 2) = (decide (u4G bs 72 = 0) && !decide ((bs.drop 76).take 32 = zB 32)) := rfl
    have hx := getN_bad (bs := bs) (i := 2) (by decide)
    rw [hb, hR] at hx
    have hy : nodeI bs 3 = (D.node [refD (u4G bs 0) ((bs.drop 4).take 32), refD (u4G bs 36) ((bs.drop 40).take 32), refD (u4G bs 72) ((bs.drop 76).take 32), refD 0 (zB 32), refD 0 (zB 32), refD 0 (zB 32), refD 0 (zB 32), refD 0 (zB 32)]) := rfl
    skip
    generalize (bs.drop 76).take 32 = s at t l hb hx hy
    generalize u4G bs 72 = a at c hb hx hy
    repeat first | refine EffG.mk (obA ?_) | refine obA ?_ | refine chkA ?_ | refine brY ?_ | refine brN ?_
    refine callA c [0, 3] ?_
    iterate 2 (first | refine EffG.mk (obA ?_) | refine obA ?_ | refine chkA ?_)
    refine storeG (D.node [refD (u4G bs 0) ((bs.drop 4).take 32), refD (u4G bs 36) ((bs.drop 40).take 32), refD a (zB 32), refD 0 (zB 32), refD 0 (zB 32), refD 0 (zB 32), refD 0 (zB 32), refD 0 (zB 32)]) rfl rfl rfl rfl rfl rfl rfl rfl rfl ⟨(show 2 < 8 from by decide), trivial⟩ rfl ?_
    repeat first | refine EffG.mk (obA ?_) | refine obA ?_ | refine chkA ?_
    refine callA t [0, 3] ?_
    skip
    refine copyG (D.node [refD (u4G bs 0) ((bs.drop 4).take 32), refD (u4G bs 36) ((bs.drop 40).take 32), refD a s, refD 0 (zB 32), refD 0 (zB 32), refD 0 (zB 32), refD 0 (zB 32), refD 0 (zB 32)]) rfl rfl rfl rfl rfl rfl rfl rfl rfl rfl rfl rfl rfl rfl rfl (by decide) rfl rfl ?_ ⟨by omega, trivial⟩ ⟨(show 2 < 8 from by decide), (by decide : 0 + 32 ≤ (List.replicate 32 (0 : BitVec 8)).length), trivial⟩ ?_ ?_
    · exact congrArg (fun x => some (D.node [refD (u4G bs 0) ((bs.drop 4).take 32), refD (u4G bs 36) ((bs.drop 40).take 32), refD a x, refD 0 (zB 32), refD 0 (zB 32), refD 0 (zB 32), refD 0 (zB 32), refD 0 (zB 32)])) (win32 (l := zB 32) (y := s) rfl l)
    · show (List.take 32 (List.drop 0 s)).length = 32
      rw [List.drop_zero, List.length_take]; omega
    repeat first | refine EffG.mk (obA ?_) | refine obA ?_ | refine chkA ?_
    by_cases qa : a = 0
    · refine Br.yes (decide_eq_true qa) ?_
      by_cases qs : s = zB 32
      · subst qs
        subst qa
        repeat first | refine EffG.mk (obA ?_) | refine obA ?_ | refine chkA ?_ | refine brY ?_ | refine brN ?_
        refine nextA (3, (D.node [refD (u4G bs 0) ((bs.drop 4).take 32), refD (u4G bs 36) ((bs.drop 40).take 32), refD 0 (zB 32), refD 0 (zB 32), refD 0 (zB 32), refD 0 (zB 32), refD 0 (zB 32), refD 0 (zB 32)])) [0, 1, 2, 3] viewA (h1 := ⟨Nat.le_of_ble_eq_true rfl, hy.symm, goodI (R := R) ⟨hall, by rw [hb]; rfl⟩⟩) (h2 := (by decide : 8 - 3 < 8 - 2))
      · have hx := hx (by rw [decide_eq_true qa, decide_eq_false qs]; rfl)
        subst hx
        repeat first | refine EffG.mk (obA ?_) | refine obA ?_ | refine chkA ?_ | refine brY ?_ | refine brN ?_
        refine brY ?_ (h := by show (!((refD a s).eqb (refD 0 (zB 32)))) = true; rw [ref_eqb, decide_eq_false qs, Bool.and_false]; rfl)
        repeat first | refine EffG.mk (obA ?_) | refine obA ?_ | refine chkA ?_ | refine brY ?_ | refine brN ?_
        refine retA [0]
    · refine brN ?_ (decide_eq_false qa)
      repeat first | refine EffG.mk (obA ?_) | refine obA ?_ | refine chkA ?_ | refine brY ?_ | refine brN ?_
      refine nextA (3, (D.node [refD (u4G bs 0) ((bs.drop 4).take 32), refD (u4G bs 36) ((bs.drop 40).take 32), refD a s, refD 0 (zB 32), refD 0 (zB 32), refD 0 (zB 32), refD 0 (zB 32), refD 0 (zB 32)])) [0, 1, 2, 3] viewA (h1 := ⟨Nat.le_of_ble_eq_true rfl, hy.symm, goodI (R := R) ⟨hall, by rw [hb, decide_eq_false qa]; rfl⟩⟩) (h2 := (by decide : 8 - 3 < 8 - 2))
  · have c := ru32_ac bs 108 180 none (by decide) (by omega)
    have t := take_ac bs 112 32 176 none (by decide) (by omega) (by decide)
    subst hd
    have l : ((bs.drop 112).take 32).length = 32 := by rw [List.length_take, List.length_drop]; omega
    have hb : badR bs (36 * 3) = (decide (u4G bs 108 = 0) && !decide ((bs.drop 112).take 32 = zB 32)) := rfl
    have hx := getN_bad (bs := bs) (i := 3) (by decide)
    rw [hb, hR] at hx
    have hy : nodeI bs 4 = (D.node [refD (u4G bs 0) ((bs.drop 4).take 32), refD (u4G bs 36) ((bs.drop 40).take 32), refD (u4G bs 72) ((bs.drop 76).take 32), refD (u4G bs 108) ((bs.drop 112).take 32), refD 0 (zB 32), refD 0 (zB 32), refD 0 (zB 32), refD 0 (zB 32)]) := rfl
    skip
    generalize (bs.drop 112).take 32 = s at t l hb hx hy
    generalize u4G bs 108 = a at c hb hx hy
    repeat first | refine EffG.mk (obA ?_) | refine obA ?_ | refine chkA ?_ | refine brY ?_ | refine brN ?_
    refine callA c [0, 3] ?_
    iterate 2 (first | refine EffG.mk (obA ?_) | refine obA ?_ | refine chkA ?_)
    refine storeG (D.node [refD (u4G bs 0) ((bs.drop 4).take 32), refD (u4G bs 36) ((bs.drop 40).take 32), refD (u4G bs 72) ((bs.drop 76).take 32), refD a (zB 32), refD 0 (zB 32), refD 0 (zB 32), refD 0 (zB 32), refD 0 (zB 32)]) rfl rfl rfl rfl rfl rfl rfl rfl rfl ⟨(show 3 < 8 from by decide), trivial⟩ rfl ?_
    repeat first | refine EffG.mk (obA ?_) | refine obA ?_ | refine chkA ?_
    refine callA t [0, 3] ?_
    skip
    refine copyG (D.node [refD (u4G bs 0) ((bs.drop 4).take 32), refD (u4G bs 36) ((bs.drop 40).take 32), refD (u4G bs 72) ((bs.drop 76).take 32), refD a s, refD 0 (zB 32), refD 0 (zB 32), refD 0 (zB 32), refD 0 (zB 32)]) rfl rfl rfl rfl rfl rfl rfl rfl rfl rfl rfl rfl rfl rfl rfl (by decide) rfl rfl ?_ ⟨by omega, trivial⟩ ⟨(show 3 < 8 from by decide), (by decide : 0 + 32 ≤ (List.replicate 32 (0 : BitVec 8)).length), trivial⟩ ?_ ?_
    · exact congrArg (fun x => some (D.node [refD (u4G bs 0) ((bs.drop 4).take 32), refD (u4G bs 36) ((bs.drop 40).take 32), refD (u4G bs 72) ((bs.drop 76).take 32), refD a x, refD 0 (zB 32), refD 0 (zB 32), refD 0 (zB 32), refD 0 (zB 32)])) (win32 (l := zB 32) (y := s) rfl l)
    · show (List.take 32 (List.drop 0 s)).length = 32
      rw [List.drop_zero, List.length_take]; omega
    repeat first | refine EffG.mk (obA ?_) | refine obA ?_ | refine chkA ?_
    by_cases qa : a = 0
    · refine Br.yes (decide_eq_true qa) ?_
      by_cases qs : s = zB 32
      · subst qs
        subst qa
        repeat first | refine EffG.mk (obA ?_) | refine obA ?_ | refine chkA ?_ | refine brY ?_ | refine brN ?_
        refine nextA (4, (D.node [refD (u4G bs 0) ((bs.drop 4).take 32), refD (u4G bs 36) ((bs.drop 40).take 32), refD (u4G bs 72) ((bs.drop 76).take 32), refD 0 (zB 32), refD 0 (zB 32), refD 0 (zB 32), refD 0 (zB 32), refD 0 (zB 32)])) [0, 1, 2, 3] viewA (h1 := ⟨Nat.le_of_ble_eq_true rfl, hy.symm, goodI (R := R) ⟨hall, by rw [hb]; rfl⟩⟩) (h2 := (by decide : 8 - 4 < 8 - 3))
      · have hx := hx (by rw [decide_eq_true qa, decide_eq_false qs]; rfl)
        subst hx
        repeat first | refine EffG.mk (obA ?_) | refine obA ?_ | refine chkA ?_ | refine brY ?_ | refine brN ?_
        refine brY ?_ (h := by show (!((refD a s).eqb (refD 0 (zB 32)))) = true; rw [ref_eqb, decide_eq_false qs, Bool.and_false]; rfl)
        repeat first | refine EffG.mk (obA ?_) | refine obA ?_ | refine chkA ?_ | refine brY ?_ | refine brN ?_
        refine retA [0]
    · refine brN ?_ (decide_eq_false qa)
      repeat first | refine EffG.mk (obA ?_) | refine obA ?_ | refine chkA ?_ | refine brY ?_ | refine brN ?_
      refine nextA (4, (D.node [refD (u4G bs 0) ((bs.drop 4).take 32), refD (u4G bs 36) ((bs.drop 40).take 32), refD (u4G bs 72) ((bs.drop 76).take 32), refD a s, refD 0 (zB 32), refD 0 (zB 32), refD 0 (zB 32), refD 0 (zB 32)])) [0, 1, 2, 3] viewA (h1 := ⟨Nat.le_of_ble_eq_true rfl, hy.symm, goodI (R := R) ⟨hall, by rw [hb, decide_eq_false qa]; rfl⟩⟩) (h2 := (by decide : 8 - 4 < 8 - 3))
  · have c := ru32_ac bs 144 144 none (by decide) (by omega)
    have t := take_ac bs 148 32 140 none (by decide) (by omega) (by decide)
    subst hd
    have l : ((bs.drop 148).take 32).length = 32 := by rw [List.length_take, List.length_drop]; omega
    have hb : badR bs (36 * 4) = (decide (u4G bs 144 = 0) && !decide ((bs.drop 148).take 32 = zB 32)) := rfl
    have hx := getN_bad (bs := bs) (i := 4) (by decide)
    rw [hb, hR] at hx
    have hy : nodeI bs 5 = (D.node [refD (u4G bs 0) ((bs.drop 4).take 32), refD (u4G bs 36) ((bs.drop 40).take 32), refD (u4G bs 72) ((bs.drop 76).take 32), refD (u4G bs 108) ((bs.drop 112).take 32), refD (u4G bs 144) ((bs.drop 148).take 32), refD 0 (zB 32), refD 0 (zB 32), refD 0 (zB 32)]) := rfl
    skip
    generalize (bs.drop 148).take 32 = s at t l hb hx hy
    generalize u4G bs 144 = a at c hb hx hy
    repeat first | refine EffG.mk (obA ?_) | refine obA ?_ | refine chkA ?_ | refine brY ?_ | refine brN ?_
    refine callA c [0, 3] ?_
    iterate 2 (first | refine EffG.mk (obA ?_) | refine obA ?_ | refine chkA ?_)
    refine storeG (D.node [refD (u4G bs 0) ((bs.drop 4).take 32), refD (u4G bs 36) ((bs.drop 40).take 32), refD (u4G bs 72) ((bs.drop 76).take 32), refD (u4G bs 108) ((bs.drop 112).take 32), refD a (zB 32), refD 0 (zB 32), refD 0 (zB 32), refD 0 (zB 32)]) rfl rfl rfl rfl rfl rfl rfl rfl rfl ⟨(show 4 < 8 from by decide), trivial⟩ rfl ?_
    repeat first | refine EffG.mk (obA ?_) | refine obA ?_ | refine chkA ?_
    refine callA t [0, 3] ?_
    skip
    refine copyG (D.node [refD (u4G bs 0) ((bs.drop 4).take 32), refD (u4G bs 36) ((bs.drop 40).take 32), refD (u4G bs 72) ((bs.drop 76).take 32), refD (u4G bs 108) ((bs.drop 112).take 32), refD a s, refD 0 (zB 32), refD 0 (zB 32), refD 0 (zB 32)]) rfl rfl rfl rfl rfl rfl rfl rfl rfl rfl rfl rfl rfl rfl rfl (by decide) rfl rfl ?_ ⟨by omega, trivial⟩ ⟨(show 4 < 8 from by decide), (by decide : 0 + 32 ≤ (List.replicate 32 (0 : BitVec 8)).length), trivial⟩ ?_ ?_
    · exact congrArg (fun x => some (D.node [refD (u4G bs 0) ((bs.drop 4).take 32), refD (u4G bs 36) ((bs.drop 40).take 32), refD (u4G bs 72) ((bs.drop 76).take 32), refD (u4G bs 108) ((bs.drop 112).take 32), refD a x, refD 0 (zB 32), refD 0 (zB 32), refD 0 (zB 32)])) (win32 (l := zB 32) (y := s) rfl l)
    · show (List.take 32 (List.drop 0 s)).length = 32
      rw [List.drop_zero, List.length_take]; omega
    repeat first | refine EffG.mk (obA ?_) | refine obA ?_ | refine chkA ?_
    by_cases qa : a = 0
    · refine Br.yes (decide_eq_true qa) ?_
      by_cases qs : s = zB 32
      · subst qs
        subst qa
        repeat first | refine EffG.mk (obA ?_) | refine obA ?_ | refine chkA ?_ | refine brY ?_ | refine brN ?_
        refine nextA (5, (D.node [refD (u4G bs 0) ((bs.drop 4).take 32), refD (u4G bs 36) ((bs.drop 40).take 32), refD (u4G bs 72) ((bs.drop 76).take 32), refD (u4G bs 108) ((bs.drop 112).take 32), refD 0 (zB 32), refD 0 (zB 32), refD 0 (zB 32), refD 0 (zB 32)])) [0, 1, 2, 3] viewA (h1 := ⟨Nat.le_of_ble_eq_true rfl, hy.symm, goodI (R := R) ⟨hall, by rw [hb]; rfl⟩⟩) (h2 := (by decide : 8 - 5 < 8 - 4))
      · have hx := hx (by rw [decide_eq_true qa, decide_eq_false qs]; rfl)
        subst hx
        repeat first | refine EffG.mk (obA ?_) | refine obA ?_ | refine chkA ?_ | refine brY ?_ | refine brN ?_
        refine brY ?_ (h := by show (!((refD a s).eqb (refD 0 (zB 32)))) = true; rw [ref_eqb, decide_eq_false qs, Bool.and_false]; rfl)
        repeat first | refine EffG.mk (obA ?_) | refine obA ?_ | refine chkA ?_ | refine brY ?_ | refine brN ?_
        refine retA [0]
    · refine brN ?_ (decide_eq_false qa)
      repeat first | refine EffG.mk (obA ?_) | refine obA ?_ | refine chkA ?_ | refine brY ?_ | refine brN ?_
      refine nextA (5, (D.node [refD (u4G bs 0) ((bs.drop 4).take 32), refD (u4G bs 36) ((bs.drop 40).take 32), refD (u4G bs 72) ((bs.drop 76).take 32), refD (u4G bs 108) ((bs.drop 112).take 32), refD a s, refD 0 (zB 32), refD 0 (zB 32), refD 0 (zB 32)])) [0, 1, 2, 3] viewA (h1 := ⟨Nat.le_of_ble_eq_true rfl, hy.symm, goodI (R := R) ⟨hall, by rw [hb, decide_eq_false qa]; rfl⟩⟩) (h2 := (by decide : 8 - 5 < 8 - 4))
  · have c := ru32_ac bs 180 108 none (by decide) (by omega)
    have t := take_ac bs 184 32 104 none (by decide) (by omega) (by decide)
    subst hd
    have l : ((bs.drop 184).take 32).length = 32 := by rw [List.length_take, List.length_drop]; omega
    have hb : badR bs (36 * 5) = (decide (u4G bs 180 = 0) && !decide ((bs.drop 184).take 32 = zB 32)) := rfl
    have hx := getN_bad (bs := bs) (i := 5) (by decide)
    rw [hb, hR] at hx
    have hy : nodeI bs 6 = (D.node [refD (u4G bs 0) ((bs.drop 4).take 32), refD (u4G bs 36) ((bs.drop 40).take 32), refD (u4G bs 72) ((bs.drop 76).take 32), refD (u4G bs 108) ((bs.drop 112).take 32), refD (u4G bs 144) ((bs.drop 148).take 32), refD (u4G bs 180) ((bs.drop 184).take 32), refD 0 (zB 32), refD 0 (zB 32)]) := rfl
    skip
    generalize (bs.drop 184).take 32 = s at t l hb hx hy
    generalize u4G bs 180 = a at c hb hx hy
    repeat first | refine EffG.mk (obA ?_) | refine obA ?_ | refine chkA ?_ | refine brY ?_ | refine brN ?_
    refine callA c [0, 3] ?_
    iterate 2 (first | refine EffG.mk (obA ?_) | refine obA ?_ | refine chkA ?_)
    refine storeG (D.node [refD (u4G bs 0) ((bs.drop 4).take 32), refD (u4G bs 36) ((bs.drop 40).take 32), refD (u4G bs 72) ((bs.drop 76).take 32), refD (u4G bs 108) ((bs.drop 112).take 32), refD (u4G bs 144) ((bs.drop 148).take 32), refD a (zB 32), refD 0 (zB 32), refD 0 (zB 32)]) rfl rfl rfl rfl rfl rfl rfl rfl rfl ⟨(show 5 < 8 from by decide), trivial⟩ rfl ?_
    repeat first | refine EffG.mk (obA ?_) | refine obA ?_ | refine chkA ?_
    refine callA t [0, 3] ?_
    skip
    refine copyG (D.node [refD (u4G bs 0) ((bs.drop 4).take 32), refD (u4G bs 36) ((bs.drop 40).take 32), refD (u4G bs 72) ((bs.drop 76).take 32), refD (u4G bs 108) ((bs.drop 112).take 32), refD (u4G bs 144) ((bs.drop 148).take 32), refD a s, refD 0 (zB 32), refD 0 (zB 32)]) rfl rfl rfl rfl rfl rfl rfl rfl rfl rfl rfl rfl rfl rfl rfl (by decide) rfl rfl ?_ ⟨by omega, trivial⟩ ⟨(show 5 < 8 from by decide), (by decide : 0 + 32 ≤ (List.replicate 32 (0 : BitVec 8)).length), trivial⟩ ?_ ?_
    · exact congrArg (fun x => some (D.node [refD (u4G bs 0) ((bs.drop 4).take 32), refD (u4G bs 36) ((bs.drop 40).take 32), refD (u4G bs 72) ((bs.drop 76).take 32), refD (u4G bs 108) ((bs.drop 112).take 32), refD (u4G bs 144) ((bs.drop 148).take 32), refD a x, refD 0 (zB 32), refD 0 (zB 32)])) (win32 (l := zB 32) (y := s) rfl l)
    · show (List.take 32 (List.drop 0 s)).length = 32
      rw [List.drop_zero, List.length_take]; omega
    repeat first | refine EffG.mk (obA ?_) | refine obA ?_ | refine chkA ?_
    by_cases qa : a = 0
    · refine Br.yes (decide_eq_true qa) ?_
      by_cases qs : s = zB 32
      · subst qs
        subst qa
        repeat first | refine EffG.mk (obA ?_) | refine obA ?_ | refine chkA ?_ | refine brY ?_ | refine brN ?_
        refine nextA (6, (D.node [refD (u4G bs 0) ((bs.drop 4).take 32), refD (u4G bs 36) ((bs.drop 40).take 32), refD (u4G bs 72) ((bs.drop 76).take 32), refD (u4G bs 108) ((bs.drop 112).take 32), refD (u4G bs 144) ((bs.drop 148).take 32), refD 0 (zB 32), refD 0 (zB 32), refD 0 (zB 32)])) [0, 1, 2, 3] viewA (h1 := ⟨Nat.le_of_ble_eq_true rfl, hy.symm, goodI (R := R) ⟨hall, by rw [hb]; rfl⟩⟩) (h2 := (by decide : 8 - 6 < 8 - 5))
      · have hx := hx (by rw [decide_eq_true qa, decide_eq_false qs]; rfl)
        subst hx
        repeat first | refine EffG.mk (obA ?_) | refine obA ?_ | refine chkA ?_ | refine brY ?_ | refine brN ?_
        refine brY ?_ (h := by show (!((refD a s).eqb (refD 0 (zB 32)))) = true; rw [ref_eqb, decide_eq_false qs, Bool.and_false]; rfl)
        repeat first | refine EffG.mk (obA ?_) | refine obA ?_ | refine chkA ?_ | refine brY ?_ | refine brN ?_
        refine retA [0]
    · refine brN ?_ (decide_eq_false qa)
      repeat first | refine EffG.mk (obA ?_) | refine obA ?_ | refine chkA ?_ | refine brY ?_ | refine brN ?_
      refine nextA (6, (D.node [refD (u4G bs 0) ((bs.drop 4).take 32), refD (u4G bs 36) ((bs.drop 40).take 32), refD (u4G bs 72) ((bs.drop 76).take 32), refD (u4G bs 108) ((bs.drop 112).take 32), refD (u4G bs 144) ((bs.drop 148).take 32), refD a s, refD 0 (zB 32), refD 0 (zB 32)])) [0, 1, 2, 3] viewA (h1 := ⟨Nat.le_of_ble_eq_true rfl, hy.symm, goodI (R := R) ⟨hall, by rw [hb, decide_eq_false qa]; rfl⟩⟩) (h2 := (by decide : 8 - 6 < 8 - 5))
  · have c := ru32_ac bs 216 72 none (by decide) (by omega)
    have t := take_ac bs 220 32 68 none (by decide) (by omega) (by decide)
    subst hd
    have l : ((bs.drop 220).take 32).length = 32 := by rw [List.length_take, List.length_drop]; omega
    have hb : badR bs (36 * 6) = (decide (u4G bs 216 = 0) && !decide ((bs.drop 220).take 32 = zB 32)) := rfl
    have hx := getN_bad (bs := bs) (i := 6) (by decide)
    rw [hb, hR] at hx
    have hy : nodeI bs 7 = (D.node [refD (u4G bs 0) ((bs.drop 4).take 32), refD (u4G bs 36) ((bs.drop 40).take 32), refD (u4G bs 72) ((bs.drop 76).take 32), refD (u4G bs 108) ((bs.drop 112).take 32), refD (u4G bs 144) ((bs.drop 148).take 32), refD (u4G bs 180) ((bs.drop 184).take 32), refD (u4G bs 216) ((bs.drop 220).take 32), refD 0 (zB 32)]) := rfl
    skip
    generalize (bs.drop 220).take 32 = s at t l hb hx hy
    generalize u4G bs 216 = a at c hb hx hy
    repeat first | refine EffG.mk (obA ?_) | refine obA ?_ | refine chkA ?_ | refine brY ?_ | refine brN ?_
    refine callA c [0, 3] ?_
    iterate 2 (first | refine EffG.mk (obA ?_) | refine obA ?_ | refine chkA ?_)
    refine storeG (D.node [refD (u4G bs 0) ((bs.drop 4).take 32), refD (u4G bs 36) ((bs.drop 40).take 32), refD (u4G bs 72) ((bs.drop 76).take 32), refD (u4G bs 108) ((bs.drop 112).take 32), refD (u4G bs 144) ((bs.drop 148).take 32), refD (u4G bs 180) ((bs.drop 184).take 32), refD a (zB 32), refD 0 (zB 32)]) rfl rfl rfl rfl rfl rfl rfl rfl rfl ⟨(show 6 < 8 from by decide), trivial⟩ rfl ?_
    repeat first | refine EffG.mk (obA ?_) | refine obA ?_ | refine chkA ?_
    refine callA t [0, 3] ?_
    skip
    refine copyG (D.node [refD (u4G bs 0) ((bs.drop 4).take 32), refD (u4G bs 36) ((bs.drop 40).take 32), refD (u4G bs 72) ((bs.drop 76).take 32), refD (u4G bs 108) ((bs.drop 112).take 32), refD (u4G bs 144) ((bs.drop 148).take 32), refD (u4G bs 180) ((bs.drop 184).take 32), refD a s, refD 0 (zB 32)]) rfl rfl rfl rfl rfl rfl rfl rfl rfl rfl rfl rfl rfl rfl rfl (by decide) rfl rfl ?_ ⟨by omega, trivial⟩ ⟨(show 6 < 8 from by decide), (by decide : 0 + 32 ≤ (List.replicate 32 (0 : BitVec 8)).length), trivial⟩ ?_ ?_
    · exact congrArg (fun x => some (D.node [refD (u4G bs 0) ((bs.drop 4).take 32), refD (u4G bs 36) ((bs.drop 40).take 32), refD (u4G bs 72) ((bs.drop 76).take 32), refD (u4G bs 108) ((bs.drop 112).take 32), refD (u4G bs 144) ((bs.drop 148).take 32), refD (u4G bs 180) ((bs.drop 184).take 32), refD a x, refD 0 (zB 32)])) (win32 (l := zB 32) (y := s) rfl l)
    · show (List.take 32 (List.drop 0 s)).length = 32
      rw [List.drop_zero, List.length_take]; omega
    repeat first | refine EffG.mk (obA ?_) | refine obA ?_ | refine chkA ?_
    by_cases qa : a = 0
    · refine Br.yes (decide_eq_true qa) ?_
      by_cases qs : s = zB 32
      · subst qs
        subst qa
        repeat first | refine EffG.mk (obA ?_) | refine obA ?_ | refine chkA ?_ | refine brY ?_ | refine brN ?_
        refine nextA (7, (D.node [refD (u4G bs 0) ((bs.drop 4).take 32), refD (u4G bs 36) ((bs.drop 40).take 32), refD (u4G bs 72) ((bs.drop 76).take 32), refD (u4G bs 108) ((bs.drop 112).take 32), refD (u4G bs 144) ((bs.drop 148).take 32), refD (u4G bs 180) ((bs.drop 184).take 32), refD 0 (zB 32), refD 0 (zB 32)])) [0, 1, 2, 3] viewA (h1 := ⟨Nat.le_of_ble_eq_true rfl, hy.symm, goodI (R := R) ⟨hall, by rw [hb]; rfl⟩⟩) (h2 := (by decide : 8 - 7 < 8 - 6))
      · have hx := hx (by rw [decide_eq_true qa, decide_eq_false qs]; rfl)
        subst hx
        repeat first | refine EffG.mk (obA ?_) | refine obA ?_ | refine chkA ?_ | refine brY ?_ | refine brN ?_
        refine brY ?_ (h := by show (!((refD a s).eqb (refD 0 (zB 32)))) = true; rw [ref_eqb, decide_eq_false qs, Bool.and_false]; rfl)
        repeat first | refine EffG.mk (obA ?_) | refine obA ?_ | refine chkA ?_ | refine brY ?_ | refine brN ?_
        refine retA [0]
    · refine brN ?_ (decide_eq_false qa)
      repeat first | refine EffG.mk (obA ?_) | refine obA ?_ | refine chkA ?_ | refine brY ?_ | refine brN ?_
      refine nextA (7, (D.node [refD (u4G bs 0) ((bs.drop 4).take 32), refD (u4G bs 36) ((bs.drop 40).take 32), refD (u4G bs 72) ((bs.drop 76).take 32), refD (u4G bs 108) ((bs.drop 112).take 32), refD (u4G bs 144) ((bs.drop 148).take 32), refD (u4G bs 180) ((bs.drop 184).take 32), refD a s, refD 0 (zB 32)])) [0, 1, 2, 3] viewA (h1 := ⟨Nat.le_of_ble_eq_true rfl, hy.symm, goodI (R := R) ⟨hall, by rw [hb, decide_eq_false qa]; rfl⟩⟩) (h2 := (by decide : 8 - 7 < 8 - 6))
  · have c := ru32_ac bs 252 36 none (by decide) (by omega)
    have t := take_ac bs 256 32 32 none (by decide) (by omega) (by decide)
    subst hd
    have l : ((bs.drop 256).take 32).length = 32 := by rw [List.length_take, List.length_drop]; omega
    have hb : badR bs (36 * 7) = (decide (u4G bs 252 = 0) && !decide ((bs.drop 256).take 32 = zB 32)) := rfl
    have hx := getN_bad (bs := bs) (i := 7) (by decide)
    rw [hb, hR] at hx
    have hy : nodeI bs 8 = (D.node [refD (u4G bs 0) ((bs.drop 4).take 32), refD (u4G bs 36) ((bs.drop 40).take 32), refD (u4G bs 72) ((bs.drop 76).take 32), refD (u4G bs 108) ((bs.drop 112).take 32), refD (u4G bs 144) ((bs.drop 148).take 32), refD (u4G bs 180) ((bs.drop 184).take 32), refD (u4G bs 216) ((bs.drop 220).take 32), refD (u4G bs 252) ((bs.drop 256).take 32)]) := rfl
    skip
    generalize (bs.drop 256).take 32 = s at t l hb hx hy
    generalize u4G bs 252 = a at c hb hx hy
    repeat first | refine EffG.mk (obA ?_) | refine obA ?_ | refine chkA ?_ | refine brY ?_ | refine brN ?_
    refine callA c [0, 3] ?_
    iterate 2 (first | refine EffG.mk (obA ?_) | refine obA ?_ | refine chkA ?_)
    refine storeG (D.node [refD (u4G bs 0) ((bs.drop 4).take 32), refD (u4G bs 36) ((bs.drop 40).take 32), refD (u4G bs 72) ((bs.drop 76).take 32), refD (u4G bs 108) ((bs.drop 112).take 32), refD (u4G bs 144) ((bs.drop 148).take 32), refD (u4G bs 180) ((bs.drop 184).take 32), refD (u4G bs 216) ((bs.drop 220).take 32), refD a (zB 32)]) rfl rfl rfl rfl rfl rfl rfl rfl rfl ⟨(show 7 < 8 from by decide), trivial⟩ rfl ?_
    repeat first | refine EffG.mk (obA ?_) | refine obA ?_ | refine chkA ?_
    refine callA t [0, 3] ?_
    skip
    refine copyG (D.node [refD (u4G bs 0) ((bs.drop 4).take 32), refD (u4G bs 36) ((bs.drop 40).take 32), refD (u4G bs 72) ((bs.drop 76).take 32), refD (u4G bs 108) ((bs.drop 112).take 32), refD (u4G bs 144) ((bs.drop 148).take 32), refD (u4G bs 180) ((bs.drop 184).take 32), refD (u4G bs 216) ((bs.drop 220).take 32), refD a s]) rfl rfl rfl rfl rfl rfl rfl rfl rfl rfl rfl rfl rfl rfl rfl (by decide) rfl rfl ?_ ⟨by omega, trivial⟩ ⟨(show 7 < 8 from by decide), (by decide : 0 + 32 ≤ (List.replicate 32 (0 : BitVec 8)).length), trivial⟩ ?_ ?_
    · exact congrArg (fun x => some (D.node [refD (u4G bs 0) ((bs.drop 4).take 32), refD (u4G bs 36) ((bs.drop 40).take 32), refD (u4G bs 72) ((bs.drop 76).take 32), refD (u4G bs 108) ((bs.drop 112).take 32), refD (u4G bs 144) ((bs.drop 148).take 32), refD (u4G bs 180) ((bs.drop 184).take 32), refD (u4G bs 216) ((bs.drop 220).take 32), refD a x])) (win32 (l := zB 32) (y := s) rfl l)
    · show (List.take 32 (List.drop 0 s)).length = 32
      rw [List.drop_zero, List.length_take]; omega
    repeat first | refine EffG.mk (obA ?_) | refine obA ?_ | refine chkA ?_
    by_cases qa : a = 0
    · refine Br.yes (decide_eq_true qa) ?_
      by_cases qs : s = zB 32
      · subst qs
        subst qa
        repeat first | refine EffG.mk (obA ?_) | refine obA ?_ | refine chkA ?_ | refine brY ?_ | refine brN ?_
        refine nextA (8, (D.node [refD (u4G bs 0) ((bs.drop 4).take 32), refD (u4G bs 36) ((bs.drop 40).take 32), refD (u4G bs 72) ((bs.drop 76).take 32), refD (u4G bs 108) ((bs.drop 112).take 32), refD (u4G bs 144) ((bs.drop 148).take 32), refD (u4G bs 180) ((bs.drop 184).take 32), refD (u4G bs 216) ((bs.drop 220).take 32), refD 0 (zB 32)])) [0, 1, 2, 3] viewA (h1 := ⟨Nat.le_of_ble_eq_true rfl, hy.symm, goodI (R := R) ⟨hall, by rw [hb]; rfl⟩⟩) (h2 := (by decide : 8 - 8 < 8 - 7))
      · have hx := hx (by rw [decide_eq_true qa, decide_eq_false qs]; rfl)
        subst hx
        repeat first | refine EffG.mk (obA ?_) | refine obA ?_ | refine chkA ?_ | refine brY ?_ | refine brN ?_
        refine brY ?_ (h := by show (!((refD a s).eqb (refD 0 (zB 32)))) = true; rw [ref_eqb, decide_eq_false qs, Bool.and_false]; rfl)
        repeat first | refine EffG.mk (obA ?_) | refine obA ?_ | refine chkA ?_ | refine brY ?_ | refine brN ?_
        refine retA [0]
    · refine brN ?_ (decide_eq_false qa)
      repeat first | refine EffG.mk (obA ?_) | refine obA ?_ | refine chkA ?_ | refine brY ?_ | refine brN ?_
      refine nextA (8, (D.node [refD (u4G bs 0) ((bs.drop 4).take 32), refD (u4G bs 36) ((bs.drop 40).take 32), refD (u4G bs 72) ((bs.drop 76).take 32), refD (u4G bs 108) ((bs.drop 112).take 32), refD (u4G bs 144) ((bs.drop 148).take 32), refD (u4G bs 180) ((bs.drop 184).take 32), refD (u4G bs 216) ((bs.drop 220).take 32), refD a s])) [0, 1, 2, 3] viewA (h1 := ⟨Nat.le_of_ble_eq_true rfl, hy.symm, goodI (R := R) ⟨hall, by rw [hb, decide_eq_false qa]; rfl⟩⟩) (h2 := (by decide : 8 - 8 < 8 - 7))
  · subst hd
    have hx := getN_end hall
    rw [hR] at hx
    subst hx
    repeat first | refine EffG.mk (obA ?_) | refine obA ?_ | refine chkA ?_ | refine brY ?_ | refine brN ?_
    refine callA e1 [0, 3] ?_
    repeat first | refine EffG.mk (obA ?_) | refine obA ?_ | refine chkA ?_ | refine brY ?_ | refine brN ?_
    refine callA e2 [0, 3] ?_
    repeat first | refine EffG.mk (obA ?_) | refine obA ?_ | refine chkA ?_ | refine brY ?_ | refine brN ?_
    refine retA [0]
end Go.Proofs.YtodkhgofmgaafaaDoor.Av

namespace Go.Proofs.YtodkhgofmgaafaaDoor.Av
open Go
set_option linter.all false
set_option maxRecDepth 3000

/-! space.Node -/
/-- what a cluster that is whole says -/
def nodeR (Q : List (BitVec 8)) : D × Int := bif badN Q || !noughtB Q 288 224 then (node0, 40) else (nodeG Q, 0)
theorem nodeG_ex {Q : List (BitVec 8)} (h : 288 ≤ Q.length) : ∃ (a0 a1 a2 a3 a4 a5 a6 a7 : BitVec 32) (s0 s1 s2 s3 s4 s5 s6 s7 : List (BitVec 8)), nodeG Q = nodeD8 a0 a1 a2 a3 a4 a5 a6 a7 s0 s1 s2 s3 s4 s5 s6 s7 ∧ s0.length = 32 ∧ s1.length = 32 ∧ s2.length = 32 ∧ s3.length = 32 ∧ s4.length = 32 ∧ s5.length = 32 ∧ s6.length = 32 ∧ s7.length = 32 := by
  have l : ∀ o, o + 32 ≤ 288 → ((Q.drop o).take 32).length = 32 := fun o ho => by rw [List.length_take, List.length_drop]; omega
  exact ⟨_, _, _, _, _, _, _, _, _, _, _, _, _, _, _, _, rfl, l 4 (by decide), l 40 (by decide), l 76 (by decide), l 112 (by decide), l 148 (by decide), l 184 (by decide), l 220 (by decide), l 256 (by decide)⟩
theorem nput0_ac : AC Tryd.prog 78 [node0] 0 [] ⟨.slice 0 [] 0 288 none, [], [(.row .cell, .u8s (node8B 0 0 0 0 0 0 0 0 (zB 32) (zB 32) (zB 32) (zB 32) (zB 32) (zB 32) (zB 32) (zB 32)))]⟩ :=
  nput_ac 0 0 0 0 0 0 0 0 (zB 32) (zB 32) (zB 32) (zB 32) (zB 32) (zB 32) (zB 32) (zB 32) (by simp) (by simp) (by simp) (by simp) (by simp) (by simp) (by simp) (by simp)
set_option maxHeartbeats 4000000 in
theorem snode_ac (c : Nat) (tag : List (BitVec 8)) (k1 k2 : List (List (BitVec 8))) (most N : Nat) (cap : Option Nat) (N2 : Nat) (cap2 : Option Nat) (ls : List Lo) (st : Nat) (S : List (BitVec 8)) (a : BitVec 32) (r : List (BitVec 8))
    (hc : 1 ≤ c) (hc2 : c ≤ 64) (hr : r.length = 32) (hS : S.length = N) (ha0 : 1 ≤ a.toNat) (ha : a.toNat ≤ 65536) (hq : 512 * (8 + (a - 1).toNat) + 512 ≤ N) (hN : N < 70368744177664)
    (he : nodeF ((S.drop (512 * (8 + (a - 1).toNat))).take 512) = r) :
    AC Tryd.prog 40 [.ptr 4 [], refD a r] 8 (spM c tag k1 k2 most N cap N2 cap2 ls st S)
      ⟨.tup [(nodeR ((S.drop (512 * (8 + (a - 1).toNat))).take 512)).1, .i64 (nodeR ((S.drop (512 * (8 + (a - 1).toNat))).take 512)).2], [], []⟩ := by
  have hg := sget_ac 44 nodeF nodeF_length node_f c tag k1 k2 most N cap N2 cap2 ls st S a r hc hc2 hr hS ha0 ha hq hN he
  clear he
  have hQl : ((S.drop (512 * (8 + (a - 1).toNat))).take 512).length = 512 := by rw [List.length_take, List.length_drop]; omega
  generalize (S.drop (512 * (8 + (a - 1).toNat))).take 512 = Q at hg hQl ⊢
  have hp := nput0_ac
  generalize node8B 0 0 0 0 0 0 0 0 (zB 32) (zB 32) (zB 32) (zB 32) (zB 32) (zB 32) (zB 32) (zB 32) = Z at hp
  have hn := nget_ac Q (by omega)
  have hz := nought_ac Q 288 224 none (by omega) (by decide)
  unfold nodeR getN at *
  cases hb : badN Q with
  | true =>
    rw [hb] at hn
    simp only [Bool.true_or, cond_true] at hn ⊢
    refine acA tab mix Tryd.func40 {} ?_
    cases ls
    all_goals
      repeat first | refine EffG.mk (obA ?_) | refine obA ?_ | refine chkA ?_ | refine brY ?_ | refine brN ?_
      refine callA hg [0, 1, 2, 3, 4, 5, 6, 7] ?_
      repeat first | refine EffG.mk (obA ?_) | refine obA ?_ | refine chkA ?_ | refine brY ?_ | refine brN ?_
      refine callA hp [] ?_
      repeat first | refine EffG.mk (obA ?_) | refine obA ?_ | refine chkA ?_ | refine brY ?_ | refine brN ?_
      refine callA hn [10] ?_
      repeat first | refine EffG.mk (obA ?_) | refine obA ?_ | refine chkA ?_ | refine brY ?_ | refine brN ?_
      refine EffG.mk (And.intro ?_ ?_)
      · (repeat' (first | exact trivial | refine And.intro ?_ ?_)) <;> first | rfl | omega
      repeat first | refine EffG.mk (obA ?_) | refine obA ?_ | refine chkA ?_ | refine brY ?_ | refine brN ?_
      refine retA [0, 1, 2, 3, 4, 5, 6, 7]
  | false =>
    rw [hb] at hn
    simp only [Bool.false_or, cond_false] at hn ⊢
    cases hz0 : noughtB Q 288 224 with
    | true =>
      rw [hz0] at hz
      simp only [Bool.not_true, cond_false]
      obtain ⟨a0, a1, a2, a3, a4, a5, a6, a7, s0, s1, s2, s3, s4, s5, s6, s7, hG, l0, l1, l2, l3, l4, l5, l6, l7⟩ := nodeG_ex (Q := Q) (by omega)
      rw [hG] at hn ⊢
      refine acA tab mix Tryd.func40 {} ?_
      cases ls
      all_goals
        repeat first | refine EffG.mk (obA ?_) | refine obA ?_ | refine chkA ?_ | refine brY ?_ | refine brN ?_
        refine callA hg [0, 1, 2, 3, 4, 5, 6, 7] ?_
        repeat first | refine EffG.mk (obA ?_) | refine obA ?_ | refine chkA ?_ | refine brY ?_ | refine brN ?_
        refine callA hp [] ?_
        repeat first | refine EffG.mk (obA ?_) | refine obA ?_ | refine chkA ?_ | refine brY ?_ | refine brN ?_
        refine callA hn [10] ?_
        repeat first | refine EffG.mk (obA ?_) | refine obA ?_ | refine chkA ?_ | refine brY ?_ | refine brN ?_
        refine EffG.mk (And.intro ?_ ?_)
        · (repeat' (first | assumption | exact trivial | refine And.intro ?_ ?_)) <;> first | rfl | omega
        repeat first | refine EffG.mk (obA ?_) | refine obA ?_ | refine chkA ?_ | refine brY ?_ | refine brN ?_
        refine callA hz [10] ?_
        repeat first | refine EffG.mk (obA ?_) | refine obA ?_ | refine chkA ?_ | refine brY ?_ | refine brN ?_
        refine EffG.mk (And.intro ?_ ?_)
        · (repeat' (first | assumption | exact trivial | refine And.intro ?_ ?_)) <;> first | rfl | omega
        repeat first | refine EffG.mk (obA ?_) | refine obA ?_ | refine chkA ?_ | refine brY ?_ | refine brN ?_
        refine retA [0, 1, 2, 3, 4, 5, 6, 7]
    | false =>
      rw [hz0] at hz
      simp only [Bool.not_false, cond_true]
      obtain ⟨a0, a1, a2, a3, a4, a5, a6, a7, s0, s1, s2, s3, s4, s5, s6, s7, hG, l0, l1, l2, l3, l4, l5, l6, l7⟩ := nodeG_ex (Q := Q) (by omega)
      rw [hG] at hn
      refine acA tab mix Tryd.func40 {} ?_
      cases ls
      all_goals
        repeat first | refine EffG.mk (obA ?_) | refine obA ?_ | refine chkA ?_ | refine brY ?_ | refine brN ?_
        refine callA hg [0, 1, 2, 3, 4, 5, 6, 7] ?_
        repeat first | refine EffG.mk (obA ?_) | refine obA ?_ | refine chkA ?_ | refine brY ?_ | refine brN ?_
        refine callA hp [] ?_
        repeat first | refine EffG.mk (obA ?_) | refine obA ?_ | refine chkA ?_ | refine brY ?_ | refine brN ?_
        refine callA hn [10] ?_
        repeat first | refine EffG.mk (obA ?_) | refine obA ?_ | refine chkA ?_ | refine brY ?_ | refine brN ?_
        refine EffG.mk (And.intro ?_ ?_)
        · (repeat' (first | assumption | exact trivial | refine And.intro ?_ ?_)) <;> first | rfl | omega
        repeat first | refine EffG.mk (obA ?_) | refine obA ?_ | refine chkA ?_ | refine brY ?_ | refine brN ?_
        refine callA hz [10] ?_
        repeat first | refine EffG.mk (obA ?_) | refine obA ?_ | refine chkA ?_ | refine brY ?_ | refine brN ?_
        refine retA [0, 1, 2, 3, 4, 5, 6, 7]
theorem snodeN_ac (c : Nat) (tag : List (BitVec 8)) (k1 k2 : List (List (BitVec 8))) (most N : Nat) (cap : Option Nat) (N2 : Nat) (cap2 : Option Nat) (ls : List Lo) (st : Nat) (S : List (BitVec 8)) (a : BitVec 32) (r : List (BitVec 8))
    (hc : 1 ≤ c) (hc2 : c ≤ 64) (hr : r.length = 32) (hS : S.length = N) (ha0 : 1 ≤ a.toNat) (ha : a.toNat ≤ 65536) (hq : 512 * (8 + (a - 1).toNat) + 512 ≤ N) (hN : N < 70368744177664)
    (he : ¬ nodeF ((S.drop (512 * (8 + (a - 1).toNat))).take 512) = r) :
    AC Tryd.prog 40 [.ptr 4 [], refD a r] 8 (spM c tag k1 k2 most N cap N2 cap2 ls st S)
      ⟨.tup [node0, .i64 40], [], []⟩ := by
  have hg := sgetN_ac 44 nodeF nodeF_length node_f c tag k1 k2 most N cap N2 cap2 ls st S a r hc hc2 hr hS ha0 ha hq hN he
  clear he
  refine acA tab mix Tryd.func40 {} ?_
  cases ls
  all_goals
    repeat first | refine EffG.mk (obA ?_) | refine obA ?_ | refine chkA ?_ | refine brY ?_ | refine brN ?_
    refine callA hg [0, 1, 2, 3, 4, 5, 6, 7] ?_
    repeat first | refine EffG.mk (obA ?_) | refine obA ?_ | refine chkA ?_ | refine brY ?_ | refine brN ?_
    refine retA [0, 1, 2, 3, 4, 5, 6, 7]
end Go.Proofs.YtodkhgofmgaafaaDoor.Av

namespace Go.Proofs.YtodkhgofmgaafaaDoor.Av
open Go
set_option linter.all false
set_option maxRecDepth 3000

/-! reading behind the end; changes behind one's back -/
theorem dreadR_ac (most N : Nat) (cap : Option Nat) (N2 : Nat) (cap2 : Option Nat) (ls : List Lo) (st p k : Nat) (hq : N < p + k) (hN : N < 70368744177664) (hp : p < 70368744177664) (hk : k < 70368744177664) :
    AC Tryd.prog 117 [.ptr 0 [], .i64 p, .i64 k] 4
      [(0, some ⟨tDv, dvD most N cap N2 cap2 (looD 3 ls) st, false⟩)]
      ⟨.tup [.nilslice, .i64 43], [], []⟩ := by
  have hu := up_ac most N cap N2 cap2 ls st
  by_cases h : N < p
  · refine acA tab mix Tryd.func117 {} ?_
    cases ls
    all_goals
      repeat first | refine EffG.mk (obA ?_) | refine obA ?_ | refine chkA ?_ | refine brY ?_ | refine brN ?_
      refine callA hu [0, 1, 2, 3] ?_
      repeat first | refine EffG.mk (obA ?_) | refine obA ?_ | refine chkA ?_ | refine brY ?_ | refine brN ?_
      refine retA [0, 1, 2, 3]
  · refine acA tab mix Tryd.func117 {} ?_
    cases ls
    all_goals
      repeat first | refine EffG.mk (obA ?_) | refine obA ?_ | refine chkA ?_ | refine brY ?_ | refine brN ?_
      refine callA hu [0, 1, 2, 3] ?_
      repeat first | refine EffG.mk (obA ?_) | refine obA ?_ | refine chkA ?_ | refine brY ?_ | refine brN ?_
      refine retA [0, 1, 2, 3]
theorem sgetlR_ac (m : BitVec 32) (c : Nat) (tag : List (BitVec 8)) (k1 k2 : List (List (BitVec 8))) (most N : Nat) (cap : Option Nat) (N2 : Nat) (cap2 : Option Nat) (ls : List Lo) (st : Nat) (S : List (BitVec 8)) (a : BitVec 32) (r : List (BitVec 8))
    (hc : 1 ≤ c) (hc2 : c ≤ 64) (hr : r.length = 32) (ha0 : 1 ≤ a.toNat) (ha : a.toNat ≤ 65536) (hq : N < 512 * (8 + (a - 1).toNat) + 512) (hN : N < 70368744177664) :
    AC Tryd.prog 83 [.ptr 4 [], refD a r, .fn 116 [] [.ptr 8 [], .ptr 9 []]] 10 (spM c tag k1 k2 most N cap N2 cap2 ls st S ++ [(8, some ⟨.cell, .ptr 4 [], true⟩), (9, some ⟨.cell, .u32 m, true⟩)])
      ⟨.tup [.nilslice, .i64 40], [], []⟩ := by
  have hs1 := sub1_toNat ha0
  have hsz := size_ac 0 0 c tag (by decide) (by decide)
  have hpl := place1_ac c (a - 1) hc hc2 (by omega)
  have hrd := dreadR_ac most N cap N2 cap2 ls st (512 * (8 + (a - 1).toNat)) 512 hq hN (by omega) (by decide)
  have htd := told43_ac
  have q0 : decide (a = BitVec.ofNat 32 (Int.toNat 0)) = false := decide_eq_false (fun e => by rw [e] at ha0; exact absurd ha0 (by decide))
  refine acA tab mix Tryd.func83 {} ?_
  cases ls
  all_goals
    repeat first | refine EffG.mk (obA ?_) | refine obA ?_ | refine chkA ?_ | refine brY ?_ | refine brN ?_
    rw [q0]
    repeat first | refine EffG.mk (obA ?_) | refine obA ?_ | refine chkA ?_ | refine brY ?_ | refine brN ?_
    refine brN ?_ (decide_eq_false (show ¬ 65536 < a.toNat by omega))
    repeat first | refine EffG.mk (obA ?_) | refine obA ?_ | refine chkA ?_ | refine brY ?_ | refine brN ?_
    refine callA hpl [] ?_
    repeat first | refine EffG.mk (obA ?_) | refine obA ?_ | refine chkA ?_ | refine brY ?_ | refine brN ?_
    refine callA hsz [4, 0, 5] ?_
    repeat first | refine EffG.mk (obA ?_) | refine obA ?_ | refine chkA ?_ | refine brY ?_ | refine brN ?_
    refine callA hrd [0, 1, 2, 3] ?_
    repeat first | refine EffG.mk (obA ?_) | refine obA ?_ | refine chkA ?_ | refine brY ?_ | refine brN ?_
    refine callA htd [] ?_
    repeat first | refine EffG.mk (obA ?_) | refine obA ?_ | refine chkA ?_ | refine brY ?_ | refine brN ?_
    refine retA [0, 1, 2, 3, 4, 5, 6, 7, 8, 9]
theorem sgetR_ac (f : Nat) (c : Nat) (tag : List (BitVec 8)) (k1 k2 : List (List (BitVec 8))) (most N : Nat) (cap : Option Nat) (N2 : Nat) (cap2 : Option Nat) (ls : List Lo) (st : Nat) (S : List (BitVec 8)) (a : BitVec 32) (r : List (BitVec 8))
    (hc : 1 ≤ c) (hc2 : c ≤ 64) (hr : r.length = 32) (ha0 : 1 ≤ a.toNat) (ha : a.toNat ≤ 65536) (hq : N < 512 * (8 + (a - 1).toNat) + 512) (hN : N < 70368744177664) :
    AC Tryd.prog 83 [.ptr 4 [], refD a r, .fn f [] []] 8 (spM c tag k1 k2 most N cap N2 cap2 ls st S)
      ⟨.tup [.nilslice, .i64 40], [], []⟩ := by
  have hs1 := sub1_toNat ha0
  have hsz := size_ac 0 0 c tag (by decide) (by decide)
  have hpl := place1_ac c (a - 1) hc hc2 (by omega)
  have hrd := dreadR_ac most N cap N2 cap2 ls st (512 * (8 + (a - 1).toNat)) 512 hq hN (by omega) (by decide)
  have htd := told43_ac
  have q0 : decide (a = BitVec.ofNat 32 (Int.toNat 0)) = false := decide_eq_false (fun e => by rw [e] at ha0; exact absurd ha0 (by decide))
  refine acA tab mix Tryd.func83 {} ?_
  cases ls
  all_goals
    repeat first | refine EffG.mk (obA ?_) | refine obA ?_ | refine chkA ?_ | refine brY ?_ | refine brN ?_
    rw [q0]
    repeat first | refine EffG.mk (obA ?_) | refine obA ?_ | refine chkA ?_ | refine brY ?_ | refine brN ?_
    refine brN ?_ (decide_eq_false (show ¬ 65536 < a.toNat by omega))
    repeat first | refine EffG.mk (obA ?_) | refine obA ?_ | refine chkA ?_ | refine brY ?_ | refine brN ?_
    refine callA hpl [] ?_
    repeat first | refine EffG.mk (obA ?_) | refine obA ?_ | refine chkA ?_ | refine brY ?_ | refine brN ?_
    refine callA hsz [4, 0, 5] ?_
    repeat first | refine EffG.mk (obA ?_) | refine obA ?_ | refine chkA ?_ | refine brY ?_ | refine brN ?_
    refine callA hrd [0, 1, 2, 3] ?_
    repeat first | refine EffG.mk (obA ?_) | refine obA ?_ | refine chkA ?_ | refine brY ?_ | refine brN ?_
    refine callA htd [] ?_
    repeat first | refine EffG.mk (obA ?_) | refine obA ?_ | refine chkA ?_ | refine brY ?_ | refine brN ?_
    refine retA [0, 1, 2, 3, 4, 5, 6, 7]
theorem sdataR_ac (c : Nat) (tag : List (BitVec 8)) (k1 k2 : List (List (BitVec 8))) (most N : Nat) (cap : Option Nat) (N2 : Nat) (cap2 : Option Nat) (ls : List Lo) (st : Nat) (S : List (BitVec 8)) (a : BitVec 32) (r : List (BitVec 8))
    (hc : 1 ≤ c) (hc2 : c ≤ 64) (hr : r.length = 32) (ha0 : 1 ≤ a.toNat) (ha : a.toNat ≤ 65536) (hq : N < 512 * (8 + (a - 1).toNat) + 512) (hN : N < 70368744177664) :
    AC Tryd.prog 39 [.ptr 4 [], refD a r] 8 (spM c tag k1 k2 most N cap N2 cap2 ls st S)
      ⟨.tup [.nilslice, .i64 40], [], []⟩ := by
  have hlf := leaf_ac a
  have hg := sgetlR_ac a c tag k1 k2 most N cap N2 cap2 ls st S a r hc hc2 hr ha0 ha hq hN
  refine acA tab mix Tryd.func39 {} ?_
  cases ls
  all_goals
    repeat first | refine EffG.mk (obA ?_) | refine obA ?_ | refine chkA ?_ | refine brY ?_ | refine brN ?_
    refine callA hlf [4] ?_
    repeat first | refine EffG.mk (obA ?_) | refine obA ?_ | refine chkA ?_ | refine brY ?_ | refine brN ?_
    refine callA hg [0, 1, 2, 3, 4, 5, 6, 7, 9, 10] ?_
    repeat first | refine EffG.mk (obA ?_) | refine obA ?_ | refine chkA ?_ | refine brY ?_ | refine brN ?_
    refine retA [0, 1, 2, 3, 4, 5, 6, 7]
theorem spageR_ac (c : Nat) (tag : List (BitVec 8)) (k1 k2 : List (List (BitVec 8))) (most N : Nat) (cap : Option Nat) (N2 : Nat) (cap2 : Option Nat) (ls : List Lo) (st : Nat) (S : List (BitVec 8)) (a : BitVec 32) (r : List (BitVec 8))
    (hc : 1 ≤ c) (hc2 : c ≤ 64) (hr : r.length = 32) (ha0 : 1 ≤ a.toNat) (ha : a.toNat ≤ 65536) (hq : N < 512 * (8 + (a - 1).toNat) + 512) (hN : N < 70368744177664) :
    AC Tryd.prog 41 [.ptr 4 [], refD a r] 8 (spM c tag k1 k2 most N cap N2 cap2 ls st S)
      ⟨.tup [.nilslice, .i64 40], [], []⟩ := by
  have hg := sgetR_ac 43 c tag k1 k2 most N cap N2 cap2 ls st S a r hc hc2 hr ha0 ha hq hN
  refine acA tab mix Tryd.func41 {} ?_
  cases ls
  all_goals
    repeat first | refine EffG.mk (obA ?_) | refine obA ?_ | refine chkA ?_ | refine brY ?_ | refine brN ?_
    refine callA hg [0, 1, 2, 3, 4, 5, 6, 7] ?_
    repeat first | refine EffG.mk (obA ?_) | refine obA ?_ | refine chkA ?_ | refine brY ?_ | refine brN ?_
    refine retA [0, 1, 2, 3, 4, 5, 6, 7]

/-- a change inside of the file -/
theorem dedit_ac (most N : Nat) (cap : Option Nat) (N2 : Nat) (cap2 : Option Nat) (ls : List Lo) (st p o k : Nat) (cap3 : Option Nat) (S S2 B : List (BitVec 8)) (hS : S.length = N) (hS2 : S2.length = N2) (hp : p + k ≤ N) (hp2 : p + k ≤ N2) (hB : o + k ≤ B.length) (h0 : 0 < k) (hN : N ≤ most) (hN2 : N2 ≤ most) (hm : most ≤ 16777216) :
    AC Tryd.prog 42 [.ptr 0 [], .i64 p, .slice 4 [] o k cap3] 5
      [(0, some ⟨tDv, dvD most N cap N2 cap2 (looD 3 ls) st, true⟩), (1, some ⟨.row .cell, .u8s S, true⟩), (2, some ⟨.row .cell, .u8s S2, true⟩), (4, some ⟨.row .cell, .u8s B, false⟩)]
      ⟨.tup [], [(1, some (.u8s (layF S ((B.drop o).take k) p))), (2, some (.u8s (layF S2 ((B.drop o).take k) p)))], []⟩ := by
  have l1 := lay_ac S B p o k N cap cap3 hS hp hB h0 (by omega)
  have l2 := lay_ac S2 B p o k N2 cap2 cap3 hS2 hp2 hB h0 (by omega)
  generalize layF S ((B.drop o).take k) p = T at l1 ⊢
  generalize layF S2 ((B.drop o).take k) p = T2 at l2 ⊢
  refine acA tab mix Tryd.func42 {} ?_
  cases ls
  all_goals
    repeat first | refine EffG.mk (obA ?_) | refine obA ?_ | refine chkA ?_ | refine brY ?_ | refine brN ?_
    refine callA l1 [1, 4] ?_
    repeat first | refine EffG.mk (obA ?_) | refine obA ?_ | refine chkA ?_ | refine brY ?_ | refine brN ?_
    refine callA l2 [2, 4] ?_
    repeat first | refine EffG.mk (obA ?_) | refine obA ?_ | refine chkA ?_ | refine brY ?_ | refine brN ?_
    refine retA [0, 1, 2, 3, 4]
theorem layF_set (S : List (BitVec 8)) (k : Nat) (v : BitVec 8) (h : k < S.length) : layF S (((S.set k v).drop k).take 1) k = S.set k v := by
  have hl : (((S.set k v).drop k).take 1).length = 1 := by rw [List.length_take, List.length_drop, List.length_set]; omega
  refine eq_getD (by rw [layF_length (by rw [hl]; omega), List.length_set]) fun i hi => ?_
  rw [layF_getD (by rw [hl]; omega), hl]
  by_cases hik : i = k
  · subst hik
    rw [if_pos (by omega), Nat.sub_self]
    simp only [List.getD_eq_getElem?_getD, List.getElem?_take, List.getElem?_drop]
    simp
  · rw [if_neg (by omega), getD_set h, if_neg (by omega)]
theorem same_ac (K bs y : List (BitVec 8)) (a : BitVec 32) (o : Nat) (cap : Option Nat) (hK : K.length = 32) (hy : y.length = 32) (h : o + 512 ≤ bs.length) (he : leafF (labF K tagS) a ((bs.drop o).take 512) = y) :
    AC Tryd.prog 45 [.u8s K, .slice 0 [] o 512 cap, refD a y] 1 [(0, some ⟨.row .cell, .u8s bs, false⟩), gR] ⟨.bool true, [], []⟩ := by
  have hl := label_ac K tagS hK (by decide) (by decide)
  have hn := nleaf_ac (labF K tagS) bs a o 512 cap (labF_length _ _) h (by decide) (by decide)
  have hyl := leafF_length (labF K tagS) a ((bs.drop o).take 512)
  have ht := labF_length K tagS
  generalize labF K tagS = tg at hl hn he hyl ht
  generalize leafF tg a ((bs.drop o).take 512) = z at hn he hyl
  refine acA tab mix Tryd.func45 {} ?_
  repeat first | refine EffG.mk (obA ?_) | refine obA ?_ | refine chkA ?_ | refine brY ?_ | refine brN ?_
  refine callA hl [] ?_
  repeat first | refine EffG.mk (obA ?_) | refine obA ?_ | refine chkA ?_ | refine brY ?_ | refine brN ?_
  refine callA hn [0] ?_
  repeat first | refine EffG.mk (obA ?_) | refine obA ?_ | refine chkA ?_ | refine brY ?_ | refine brN ?_
  refine retA [0] (h1 := ?_)
  show retIs (.bool true) [.bool ((D.u8s z).eqb (D.u8s y))]
  rw [eqY he]; rfl

/-! arrays as rows: the same for bytes that lie in an array -/
theorem sputA_ac (f : Nat) (F : List (BitVec 8) → List (BitVec 8)) (hF : ∀ b, (F b).length = 32)
    (hf : ∀ (bs : List (BitVec 8)), bs.length = 512 → AC Tryd.prog f [.slice 0 [] 0 512 none] 1 [(0, some ⟨.row .cell, .u8s bs, false⟩), gR] ⟨.u8s (F bs), [], []⟩)
    (c : Nat) (tag : List (BitVec 8)) (k1 k2 : List (List (BitVec 8))) (most N : Nat) (cap : Option Nat) (N2 : Nat) (cap2 : Option Nat) (ls : List Lo) (st : Nat) (S : List (BitVec 8)) (n : BitVec 32) (B : List (BitVec 8)) (o k : Nat) (cap3 : Option Nat)
    (hc : 1 ≤ c) (hc2 : c ≤ 64) (ht : tag.length = 32) (hls : ∀ x ∈ ls, x.bytes.length = 512) (hS : S.length = N) (hn : n.toNat ≤ 65535) (hq : 512 * (8 + n.toNat) + 512 ≤ N) (hB : o + k ≤ B.length) (hk : k ≤ 512) (hN : N ≤ most) (hm : most ≤ 16777216) (hl : ls.length < 1000) (hst : st < 1000) :
    AC Tryd.prog 77 [.ptr 4 [], .u32 n, .slice 8 [] o k cap3, .fn f [] []] 9 (spM c tag k1 k2 most N cap N2 cap2 ls st S ++ [(8, some ⟨.arr 512 .cell, .u8s B, false⟩)])
      ⟨.tup [refD (n + 1) (F (pad512 ((B.drop o).take k))), .i64 0], (looM 3 ls).map (fun p => (p.1, none)) ++ [(0, some (dvD most N cap N2 cap2 (.slice 9 [] 0 (ls.length + 1) none) (st + 1))), (1, some (.u8s (layF S (pad512 ((B.drop o).take k)) (512 * (8 + n.toNat)))))],
       [(.row tLo, losD (ls ++ [loF (layF S (pad512 ((B.drop o).take k)) (512 * (8 + n.toNat))) (8 + n.toNat)]))]⟩ := by
  have hbl : ((B.drop o).take k).length = k := by rw [List.length_take, List.length_drop]; omega
  have hpd := padN_ac B o k 512 cap3 hB hk (by decide)
  have hsz := size_ac 0 0 c tag (by decide) (by decide)
  have hpl := place1_ac c n hc hc2 hn
  have hpe : (B.drop o).take k ++ List.replicate (512 - k) 0 = pad512 ((B.drop o).take k) := by rw [pad512, hbl]
  rw [hpe] at hpd
  have hPl : (pad512 ((B.drop o).take k)).length = 512 := by rw [pad512, List.length_append, List.length_replicate]; omega
  generalize pad512 ((B.drop o).take k) = Q at hpd hPl ⊢
  have hw := dwrite_ac most N cap N2 cap2 ls hls st (8 + n.toNat) 0 none S Q hS hq (by omega) hN hm hl hst
  rw [List.drop_zero, List.take_of_length_le (by omega)] at hw
  have hsum := hf Q hPl
  have hFl := hF Q
  generalize F Q = sum at hsum hFl ⊢
  generalize layF S Q (512 * (8 + n.toNat)) = S' at hw ⊢
  refine acA tab mix Tryd.func77 {} ?_
  cases ls
  · repeat first | refine EffG.mk (obA ?_) | refine obA ?_ | refine chkA ?_ | refine brY ?_ | refine brN ?_
    refine brN ?_ (decide_eq_false (show ¬ 65535 < n.toNat by omega))
    repeat first | refine EffG.mk (obA ?_) | refine obA ?_ | refine chkA ?_ | refine brY ?_ | refine brN ?_
    refine callA hsz [4, 0, 5] ?_
    repeat first | refine EffG.mk (obA ?_) | refine obA ?_ | refine chkA ?_ | refine brY ?_ | refine brN ?_
    refine callA (hpd.arr 0 512) [8] ?_
    repeat first | refine EffG.mk (obA ?_) | refine obA ?_ | refine chkA ?_ | refine brY ?_ | refine brN ?_
    refine callA hpl [] ?_
    repeat first | refine EffG.mk (obA ?_) | refine obA ?_ | refine chkA ?_ | refine brY ?_ | refine brN ?_
    refine callA hw [0, 1, 2, 3, 10] ?_
    repeat first | refine EffG.mk (obA ?_) | refine obA ?_ | refine chkA ?_ | refine brY ?_ | refine brN ?_
    refine callA hsum [10] ?_
    repeat first | refine EffG.mk (obA ?_) | refine obA ?_ | refine chkA ?_ | refine brY ?_ | refine brN ?_
    refine retA [0, 1, 2, 3, 4, 5, 6, 7, 8, 11]
  · repeat first | refine EffG.mk (obA ?_) | refine obA ?_ | refine chkA ?_ | refine brY ?_ | refine brN ?_
    refine brN ?_ (decide_eq_false (show ¬ 65535 < n.toNat by omega))
    repeat first | refine EffG.mk (obA ?_) | refine obA ?_ | refine chkA ?_ | refine brY ?_ | refine brN ?_
    refine callA hsz [4, 0, 5] ?_
    repeat first | refine EffG.mk (obA ?_) | refine obA ?_ | refine chkA ?_ | refine brY ?_ | refine brN ?_
    refine callA (hpd.arr 0 512) [8] ?_
    repeat first | refine EffG.mk (obA ?_) | refine obA ?_ | refine chkA ?_ | refine brY ?_ | refine brN ?_
    refine callA hpl [] ?_
    repeat first | refine EffG.mk (obA ?_) | refine obA ?_ | refine chkA ?_ | refine brY ?_ | refine brN ?_
    refine callA hw [0, 1, 2, 3, 10] ?_
    repeat first | refine EffG.mk (obA ?_) | refine obA ?_ | refine chkA ?_ | refine brY ?_ | refine brN ?_
    refine callA hsum [10] ?_
    repeat first | refine EffG.mk (obA ?_) | refine obA ?_ | refine chkA ?_ | refine brY ?_ | refine brN ?_
    refine retA [0, 1, 2, 3, 4, 5, 6, 7, 8, 11]
theorem sputdataA_ac (c : Nat) (tag : List (BitVec 8)) (k1 k2 : List (List (BitVec 8))) (most N : Nat) (cap : Option Nat) (N2 : Nat) (cap2 : Option Nat) (ls : List Lo) (st : Nat) (S : List (BitVec 8)) (n : BitVec 32) (B : List (BitVec 8)) (o : Nat) (cap3 : Option Nat)
    (h1 : Rows 15 16 k1) (h2 : Rows 15 16 k2)
    (hc : 1 ≤ c) (hc2 : c ≤ 64) (ht : tag.length = 32) (hls : ∀ x ∈ ls, x.bytes.length = 512) (hS : S.length = N) (hn : n.toNat ≤ 65535) (hq : 512 * (8 + n.toNat) + 512 ≤ N) (hB : o + 512 ≤ B.length) (hB2 : B.length < 9223372036854775808) (hN : N ≤ most) (hm : most ≤ 16777216) (hl : ls.length < 1000) (hst : st < 1000) :
    AC Tryd.prog 37 [.ptr 4 [], .u32 n, .slice 8 [] o 512 cap3] 9 (spM c tag k1 k2 most N cap N2 cap2 ls st S ++ [(8, some ⟨.arr 512 .cell, .u8s B, false⟩)])
      ⟨.tup [refD (n + 1) (leafF tag (n + 1) (sealF k1 k2 B o n)), .i64 0], (looM 3 ls).map (fun p => (p.1, none)) ++ [(0, some (dvD most N cap N2 cap2 (.slice 9 [] 0 (ls.length + 1) none) (st + 1))), (1, some (.u8s (layF S (sealF k1 k2 B o n) (512 * (8 + n.toNat)))))],
       [(.row tLo, losD (ls ++ [loF (layF S (sealF k1 k2 B o n) (512 * (8 + n.toNat))) (8 + n.toNat)]))]⟩ := by
  have hsz := size_ac 0 0 c tag (by decide) (by decide)
  have hse := sector_ac c tag n hc hc2 hn
  have hsl := seal_ac (.arr 512 .cell) (.inr ⟨512, rfl⟩) k1 k2 h1 h2 B o 1 cap3 (BitVec.ofNat 64 (8 + n.toNat)) hB (by decide) hB2
  have hQl := sealF_length (k1 := k1) k2 n hB
  rw [show ovI (encF k1) k2 B o (BitVec.ofNat 64 (8 + n.toNat)) 1 = sealF k1 k2 B o n from rfl] at hsl
  generalize sealF k1 k2 B o n = Q at hsl hQl ⊢
  have hlf := leaf_ac (n + 1)
  have hp := sputl_ac (n + 1) c tag k1 k2 most N cap N2 cap2 ls st S n Q 0 512 none hc hc2 ht hls hS hn hq (by omega) (by decide) hN hm hl hst
  rw [List.drop_zero, List.take_of_length_le (by omega), pad512_self hQl] at hp
  have hy := leafF_length tag (n + 1) Q
  generalize leafF tag (n + 1) Q = y at hp hy ⊢
  generalize layF S Q (512 * (8 + n.toNat)) = S' at hp ⊢
  refine acA tab mix Tryd.func37 {} ?_
  cases ls
  · repeat first | refine EffG.mk (obA ?_) | refine obA ?_ | refine chkA ?_ | refine brY ?_ | refine brN ?_
    refine brN ?_ (decide_eq_false (show ¬ 65535 < n.toNat by omega))
    repeat first | refine EffG.mk (obA ?_) | refine obA ?_ | refine chkA ?_ | refine brY ?_ | refine brN ?_
    refine callA hsz [4, 0, 5] ?_
    repeat first | refine EffG.mk (obA ?_) | refine obA ?_ | refine chkA ?_ | refine brY ?_ | refine brN ?_
    refine callA hse [4, 0, 5] ?_
    repeat first | refine EffG.mk (obA ?_) | refine obA ?_ | refine chkA ?_ | refine brY ?_ | refine brN ?_
    refine callA hsl [5, 6, 7, 8] ?_
    repeat first | refine EffG.mk (obA ?_) | refine obA ?_ | refine chkA ?_ | refine brY ?_ | refine brN ?_
    refine callA hlf [4] ?_
    repeat first | refine EffG.mk (obA ?_) | refine obA ?_ | refine chkA ?_ | refine brY ?_ | refine brN ?_
    refine callA hp [0, 1, 2, 3, 4, 5, 6, 7, 10, 11, 12] ?_
    repeat first | refine EffG.mk (obA ?_) | refine obA ?_ | refine chkA ?_ | refine brY ?_ | refine brN ?_
    refine retA [0, 1, 2, 3, 4, 5, 6, 7, 8, 13]
  · repeat first | refine EffG.mk (obA ?_) | refine obA ?_ | refine chkA ?_ | refine brY ?_ | refine brN ?_
    refine brN ?_ (decide_eq_false (show ¬ 65535 < n.toNat by omega))
    repeat first | refine EffG.mk (obA ?_) | refine obA ?_ | refine chkA ?_ | refine brY ?_ | refine brN ?_
    refine callA hsz [4, 0, 5] ?_
    repeat first | refine EffG.mk (obA ?_) | refine obA ?_ | refine chkA ?_ | refine brY ?_ | refine brN ?_
    refine callA hse [4, 0, 5] ?_
    repeat first | refine EffG.mk (obA ?_) | refine obA ?_ | refine chkA ?_ | refine brY ?_ | refine brN ?_
    refine callA hsl [5, 6, 7, 8] ?_
    repeat first | refine EffG.mk (obA ?_) | refine obA ?_ | refine chkA ?_ | refine brY ?_ | refine brN ?_
    refine callA hlf [4] ?_
    repeat first | refine EffG.mk (obA ?_) | refine obA ?_ | refine chkA ?_ | refine brY ?_ | refine brN ?_
    refine callA hp [0, 1, 2, 3, 4, 5, 6, 7, 10, 11, 12] ?_
    repeat first | refine EffG.mk (obA ?_) | refine obA ?_ | refine chkA ?_ | refine brY ?_ | refine brN ?_
    refine retA [0, 1, 2, 3, 4, 5, 6, 7, 8, 13]

theorem sputpageA_ac (c : Nat) (tag : List (BitVec 8)) (k1 k2 : List (List (BitVec 8))) (most N : Nat) (cap : Option Nat) (N2 : Nat) (cap2 : Option Nat) (ls : List Lo) (st : Nat) (S : List (BitVec 8)) (n : BitVec 32) (B : List (BitVec 8)) (o k : Nat) (cap3 : Option Nat)
    (hc : 1 ≤ c) (hc2 : c ≤ 64) (ht : tag.length = 32) (hls : ∀ x ∈ ls, x.bytes.length = 512) (hS : S.length = N) (hn : n.toNat ≤ 65535) (hq : 512 * (8 + n.toNat) + 512 ≤ N) (hB : o + k ≤ B.length) (hk : k ≤ 512) (hN : N ≤ most) (hm : most ≤ 16777216) (hl : ls.length < 1000) (hst : st < 1000) :
    AC Tryd.prog 35 [.ptr 4 [], .u32 n, .slice 8 [] o k cap3] 9 (spM c tag k1 k2 most N cap N2 cap2 ls st S ++ [(8, some ⟨.arr 512 .cell, .u8s B, false⟩)])
      ⟨.tup [refD (n + 1) (pageF (pad512 ((B.drop o).take k))), .i64 0], (looM 3 ls).map (fun p => (p.1, none)) ++ [(0, some (dvD most N cap N2 cap2 (.slice 9 [] 0 (ls.length + 1) none) (st + 1))), (1, some (.u8s (layF S (pad512 ((B.drop o).take k)) (512 * (8 + n.toNat)))))],
       [(.row tLo, losD (ls ++ [loF (layF S (pad512 ((B.drop o).take k)) (512 * (8 + n.toNat))) (8 + n.toNat)]))]⟩ := by
  have hp := sputA_ac 43 pageF pageF_length page_f c tag k1 k2 most N cap N2 cap2 ls st S n B o k cap3 hc hc2 ht hls hS hn hq hB hk hN hm hl hst
  have hy := pageF_length (pad512 ((B.drop o).take k))
  generalize pad512 ((B.drop o).take k) = Q at hp hy ⊢
  generalize pageF Q = y at hp hy ⊢
  generalize layF S Q (512 * (8 + n.toNat)) = S' at hp ⊢
  refine acA tab mix Tryd.func35 {} ?_
  cases ls
  · repeat first | refine EffG.mk (obA ?_) | refine obA ?_ | refine chkA ?_ | refine brY ?_ | refine brN ?_
    refine callA hp [0, 1, 2, 3, 4, 5, 6, 7, 8] ?_
    repeat first | refine EffG.mk (obA ?_) | refine obA ?_ | refine chkA ?_ | refine brY ?_ | refine brN ?_
    refine retA [0, 1, 2, 3, 4, 5, 6, 7, 8, 10]
  · repeat first | refine EffG.mk (obA ?_) | refine obA ?_ | refine chkA ?_ | refine brY ?_ | refine brN ?_
    refine callA hp [0, 1, 2, 3, 4, 5, 6, 7, 8] ?_
    repeat first | refine EffG.mk (obA ?_) | refine obA ?_ | refine chkA ?_ | refine brY ?_ | refine brN ?_
    refine retA [0, 1, 2, 3, 4, 5, 6, 7, 8, 10]
end Go.Proofs.YtodkhgofmgaafaaDoor.Av

namespace Go.Proofs.YtodkhgofmgaafaaDoor.Av
open Go
set_option linter.all false
set_option maxRecDepth 3000

/-! SpaceTurned: printed by gen_dwj.py -/
def edxF (S : List (BitVec 8)) (k : Nat) (y : BitVec 8) : List (BitVec 8) := S.set (0 + k) (S.getD (0 + k) 0 ^^^ y)
theorem edxF_length {S : List (BitVec 8)} {k : Nat} {y : BitVec 8} : (edxF S k y).length = S.length := by rw [edxF, List.length_set]
theorem layF_edx (S : List (BitVec 8)) (k : Nat) (y : BitVec 8) (h : k < S.length) : layF S (((edxF S k y).drop (0 + k)).take 1) k = edxF S k y := by
  unfold edxF; rw [Nat.zero_add]; exact layF_set S k _ h
theorem edq (i w : Nat) : (1 : Nat) = ((4096 + 512 * (i : Int) + (w : Nat) + 1).toNat - (4096 + 512 * (i : Int) + (w : Nat)).toNat) := by omega
theorem n0ty : hasTy tNd node0 := ⟨rfl, ⟨rfl, rfl, trivial⟩, ⟨rfl, rfl, trivial⟩, ⟨rfl, rfl, trivial⟩, ⟨rfl, rfl, trivial⟩, ⟨rfl, rfl, trivial⟩, ⟨rfl, rfl, trivial⟩, ⟨rfl, rfl, trivial⟩, ⟨rfl, rfl, trivial⟩, trivial⟩
theorem n8ty {a0 a1 a2 a3 a4 a5 a6 a7 : BitVec 32} {s0 s1 s2 s3 s4 s5 s6 s7 : List (BitVec 8)} (l0 : s0.length = 32) (l1 : s1.length = 32) (l2 : s2.length = 32) (l3 : s3.length = 32) (l4 : s4.length = 32) (l5 : s5.length = 32) (l6 : s6.length = 32) (l7 : s7.length = 32) : hasTy tNd (nodeD8 a0 a1 a2 a3 a4 a5 a6 a7 s0 s1 s2 s3 s4 s5 s6 s7) :=
  ⟨rfl, ⟨rfl, l0, trivial⟩, ⟨rfl, l1, trivial⟩, ⟨rfl, l2, trivial⟩, ⟨rfl, l3, trivial⟩, ⟨rfl, l4, trivial⟩, ⟨rfl, l5, trivial⟩, ⟨rfl, l6, trivial⟩, ⟨rfl, l7, trivial⟩, trivial⟩
theorem snode_or (c : Nat) (tag : List (BitVec 8)) (k1 k2 : List (List (BitVec 8))) (most N : Nat) (cap : Option Nat) (N2 : Nat) (cap2 : Option Nat) (ls : List Lo) (st : Nat) (S : List (BitVec 8)) (a : BitVec 32) (r : List (BitVec 8))
    (hc : 1 ≤ c) (hc2 : c ≤ 64) (hr : r.length = 32) (hS : S.length = N) (ha0 : 1 ≤ a.toNat) (ha : a.toNat ≤ 65536) (hq : 512 * (8 + (a - 1).toNat) + 512 ≤ N) (hN : N < 70368744177664) :
    AC Tryd.prog 40 [.ptr 4 [], refD a r] 8 (spM c tag k1 k2 most N cap N2 cap2 ls st S) ⟨.tup [node0, .i64 40], [], []⟩ ∨
    (∃ (a0 a1 a2 a3 a4 a5 a6 a7 : BitVec 32) (s0 s1 s2 s3 s4 s5 s6 s7 : List (BitVec 8)), AC Tryd.prog 40 [.ptr 4 [], refD a r] 8 (spM c tag k1 k2 most N cap N2 cap2 ls st S) ⟨.tup [nodeD8 a0 a1 a2 a3 a4 a5 a6 a7 s0 s1 s2 s3 s4 s5 s6 s7, .i64 0], [], []⟩ ∧
      nodeF ((S.drop (512 * (8 + (a - 1).toNat))).take 512) = r ∧ s0.length = 32 ∧ s1.length = 32 ∧ s2.length = 32 ∧ s3.length = 32 ∧ s4.length = 32 ∧ s5.length = 32 ∧ s6.length = 32 ∧ s7.length = 32) := by
  by_cases he : nodeF ((S.drop (512 * (8 + (a - 1).toNat))).take 512) = r
  · have h := snode_ac c tag k1 k2 most N cap N2 cap2 ls st S a r hc hc2 hr hS ha0 ha hq hN he
    have hQl : ((S.drop (512 * (8 + (a - 1).toNat))).take 512).length = 512 := by rw [List.length_take, List.length_drop]; omega
    generalize (S.drop (512 * (8 + (a - 1).toNat))).take 512 = Q at h he hQl ⊢
    unfold nodeR at h
    cases hb : badN Q || !noughtB Q 288 224 with
    | true => rw [hb] at h; exact .inl h
    | false =>
      rw [hb] at h
      obtain ⟨a0, a1, a2, a3, a4, a5, a6, a7, s0, s1, s2, s3, s4, s5, s6, s7, hG, hl⟩ := nodeG_ex (Q := Q) (by omega)
      simp only [cond_false, hG] at h
      exact .inr ⟨_, _, _, _, _, _, _, _, _, _, _, _, _, _, _, _, h, he, hl⟩
  · exact .inl (snodeN_ac c tag k1 k2 most N cap N2 cap2 ls st S a r hc hc2 hr hS ha0 ha hq hN he)

set_option maxHeartbeats 4000000 in
theorem sturn_ac (K b : List (BitVec 8)) (h0 h1 : BitVec 16) (hK : K.length = 32) (hb : b.length = 512) :
    AC Tryd.prog 12 [.u8s K, .u8s b, .node [.u16 h0, .u16 h1]] 0 [gR] ⟨.bool true, [], []⟩ := by
  by_cases hby : h1.setWidth 8 = 0#8
  · refine acA tab mix Tryd.func12 {} ?_
    repeat first | refine EffG.mk (obA ?_) | refine obA ?_ | refine chkA ?_ | refine brY ?_ | refine brN ?_
    refine Br.yes (decide_eq_true hby) ?_
    repeat first | refine EffG.mk (obA ?_) | refine obA ?_ | refine chkA ?_ | refine brY ?_ | refine brN ?_
    refine callA awake16_ac [] ?_
    repeat first | refine EffG.mk (obA ?_) | refine obA ?_ | refine chkA ?_ | refine brY ?_ | refine brN ?_
    refine retA []
  have hbg := begun_ac
  have hnw := snew_ac 8 K (by decide) (by decide) hK geo_ne
  have r1 := rows_sched (labF K oneS) (labF_length _ _)
  have r2 := rows_sched (labF K twoS) (labF_length _ _)
  have ht := labF_length K tagS
  have hsm := fun (bs y : List (BitVec 8)) (a : BitVec 32) (o : Nat) (cap : Option Nat) hy hh he => same_ac K bs y a o cap hK hy hh he
  generalize labF K tagS = tg at hnw ht hsm
  generalize schedF (labF K oneS) = k1 at hnw r1
  generalize schedF (labF K twoS) = k2 at hnw r2
  have hpd := sputdataA_ac 8 tg k1 k2 32768 16384 none 16384 none [] 0 (zB 16384) 0 b 0 (some 512) r1 r2 (by decide) (by decide) ht (by simp) (by simp) (by decide) (by decide) (by omega) (by omega) (by decide) (by decide) (by decide) (by decide)
  have hQ := sealF_length (k1 := k1) k2 (bs := b) (o := 0) 0 (by omega)
  generalize sealF k1 k2 b 0 0 = Q at hpd hQ
  have hy := leafF_length tg (0 + 1) Q
  have hS1l : (layF (zB 16384) Q (512 * (8 + (0 : BitVec 32).toNat))).length = 16384 := by rw [layF_length (by rw [hQ]; simp)]; simp
  generalize layF (zB 16384) Q (512 * (8 + (0 : BitVec 32).toNat)) = S1 at hpd hS1l
  generalize leafF tg (0 + 1) Q = y at hpd hy
  have hpp := sputpageA_ac 8 tg k1 k2 32768 16384 none 16384 none [loF S1 (8 + (0 : BitVec 32).toNat)] 1 S1 1 b 0 512 (some 512) (by decide) (by decide) ht (by intro x hx; rcases List.mem_singleton.1 hx with rfl; exact loB_length _ _ (by rw [hS1l]; decide)) hS1l (by decide) (by decide) (by omega) (by decide) (by decide) (by decide) (by simp) (by decide)
  rw [List.drop_zero, List.take_of_length_le (by omega), pad512_self hb] at hpp
  have hyp := pageF_length b
  have hS2l : (layF S1 b (512 * (8 + (1 : BitVec 32).toNat))).length = 16384 := by rw [layF_length (by rw [hb, hS1l]; decide), hS1l]
  generalize layF S1 b (512 * (8 + (1 : BitVec 32).toNat)) = S2 at hpp hS2l
  generalize pageF b = yp at hpp hyp
  have hpn := sputnode_ac 8 tg k1 k2 32768 16384 none 16384 none ([loF S1 (8 + (0 : BitVec 32).toNat)] ++ [loF S2 (8 + (1 : BitVec 32).toNat)]) 2 S2 2 1 0 0 0 0 0 0 0 (1 :: List.replicate 31 0) (zB 32) (zB 32) (zB 32) (zB 32) (zB 32) (zB 32) (zB 32) rfl rfl rfl rfl rfl rfl rfl rfl (by decide) (by decide) ht (by intro x hx; simp only [List.cons_append, List.nil_append, List.mem_cons, List.not_mem_nil, or_false] at hx; rcases hx with rfl | rfl <;> exact loB_length _ _ (by first | (rw [hS3l]; decide) | (rw [hS2l]; decide) | (rw [hS1l]; decide))) hS2l (by decide) (by decide) (by decide) (by decide) (by simp) (by decide)
  have hZl : (pad512 (node8B 1 0 0 0 0 0 0 0 (1 :: List.replicate 31 0) (zB 32) (zB 32) (zB 32) (zB 32) (zB 32) (zB 32) (zB 32))).length = 512 := by rw [pad512, List.length_append, List.length_replicate, node8B_length rfl rfl rfl rfl rfl rfl rfl rfl]
  generalize pad512 (node8B 1 0 0 0 0 0 0 0 (1 :: List.replicate 31 0) (zB 32) (zB 32) (zB 32) (zB 32) (zB 32) (zB 32) (zB 32)) = Z at hpn hZl
  have hyn := nodeF_length Z
  have hS3l : (layF S2 Z (512 * (8 + (2 : BitVec 32).toNat))).length = 16384 := by rw [layF_length (by rw [hZl, hS2l]; decide), hS2l]
  generalize layF S2 Z (512 * (8 + (2 : BitVec 32).toNat)) = S3 at hpn hS3l
  generalize nodeF Z = yn at hpn hyn
  generalize loF S1 (8 + (0 : BitVec 32).toNat) = x1 at *
  generalize loF S2 (8 + (1 : BitVec 32).toNat) = x2 at *
  generalize loF S3 (8 + (2 : BitVec 32).toNat) = x3 at *
  have hdb := dbytes_ac 32768 16384 none 16384 none [x1, x2, x3] 3 S3 hS3l (by decide)
  have hw : (h0 % BitVec.ofNat 16 (Int.toNat 512)).toNat < 512 := by rw [BitVec.toNat_umod]; exact Nat.mod_lt _ (by decide)
  clear hQ hZl hS1l hS2l
  refine acA tab mix Tryd.func12 {} ?_
  repeat first | refine EffG.mk (obA ?_) | refine obA ?_ | refine chkA ?_ | refine brY ?_ | refine brN ?_
  refine brN ?_ (decide_eq_false hby)
  repeat first | refine EffG.mk (obA ?_) | refine obA ?_ | refine chkA ?_ | refine brY ?_ | refine brN ?_
  refine callA hbg [] ?_
  repeat first | refine EffG.mk (obA ?_) | refine obA ?_ | refine chkA ?_ | refine brY ?_ | refine brN ?_
  refine callA hnw [3] ?_
  repeat first | refine EffG.mk (obA ?_) | refine obA ?_ | refine chkA ?_ | refine brY ?_ | refine brN ?_
  refine callA hpd [3, 4, 5, 5, 6, 7, 8, 9, 1] ?_
  repeat first | refine EffG.mk (obA ?_) | refine obA ?_ | refine chkA ?_ | refine brY ?_ | refine brN ?_
  refine callA hpp [3, 4, 5, 10, 6, 7, 8, 9, 1] ?_
  repeat first | refine EffG.mk (obA ?_) | refine obA ?_ | refine chkA ?_ | refine brY ?_ | refine brN ?_
  refine callA hpn [3, 4, 5, 12, 6, 7, 8, 9] ?_
  repeat first | refine EffG.mk (obA ?_) | refine obA ?_ | refine chkA ?_ | refine brY ?_ | refine brN ?_
  refine callA hdb [3, 4, 5, 14] ?_
  repeat first | refine EffG.mk (obA ?_) | refine obA ?_ | refine chkA ?_ | refine brY ?_ | refine brN ?_
  refine loopG (Nat × List (BitVec 8) × List (BitVec 8)) (fun z => [(3, .ptr 0 []), (5, .ptr 2 []), (7, .u8 (h1.setWidth 8)), (8, .ptr 3 []), (9, .ptr 6 []), (10, .ptr 11 []), (12, .ptr 13 []), (14, .ptr 15 []), (16, .slice 16 [] 0 16384 none), (17, .i64 z.1)])
    (fun z => [gR, (0, some ⟨.arr 32 .cell, .u8s K, true⟩), (2, some ⟨.arr 2 .cell, .node [.u16 h0, .u16 h1], true⟩), (3, some ⟨tDv, .node [.i64 (32768 : Nat), .slice 4 [] 0 16384 none, .slice 5 [] 0 16384 none, .slice 14 [] 0 3 none, .i64 (3 : Nat), .bool false, .nilptr], true⟩), (4, some ⟨.row .cell, .u8s z.2.1, true⟩), (5, some ⟨.row .cell, .u8s z.2.2, true⟩), (6, some ⟨tSp, .node [.ptr 3 [], geoD 8 1, .ptr 7 [], .u8s tg], true⟩), (7, some ⟨tX, .node [.ptr 8 [], .ptr 9 []], true⟩), (8, some ⟨tC, keysD k1, true⟩), (9, some ⟨tC, keysD k2, true⟩), (11, some ⟨tRef, refD 1 y, true⟩), (13, some ⟨tRef, refD 2 yp, true⟩), (15, some ⟨tRef, refD 3 yn, true⟩), (14, some ⟨.row tLo, losD [x1, x2, x3], true⟩), (16, some ⟨.row .cell, .u8s z.2.1, true⟩)])
    17 (fun z => z.1 ≤ 3 ∧ z.2.1.length = 16384 ∧ z.2.2.length = 16384) (fun z => 3 - z.1) (0, S3, zB 16384) [0, 1, 2, 3, 4, 5, 6, 7, 8, 9, 10, 11, 12, 13, 14, 15, 16] ⟨Nat.zero_le _, hS3l, by simp⟩ viewA ?_
  clear hpd hpp hpn hdb hnw hbg hS3l
  rintro ⟨i, A, T⟩ ⟨hi, hA, hT⟩
  have hi : i ≤ 3 := hi
  have hA : A.length = 16384 := hA
  have hT : T.length = 16384 := hT
  repeat first | refine EffG.mk (obA ?_) | refine obA ?_ | refine chkA ?_
  refine Br.split (fun h => ?_) (fun h => ?_)
  · have hi : i < 3 := by have := of_decide_eq_true h; omega
    clear h
    have he := dedit_ac 32768 16384 none 16384 none [x1, x2, x3] 3 (4096 + 512 * i + (h0 % BitVec.ofNat 16 (Int.toNat 512)).toNat) (0 + (4096 + 512 * i + (h0 % BitVec.ofNat 16 (Int.toNat 512)).toNat)) 1 none A T (edxF A (4096 + 512 * i + (h0 % BitVec.ofNat 16 (Int.toNat 512)).toNat) (h1.setWidth 8)) hA hT (by omega) (by omega) (by rw [edxF_length]; omega) (by decide) (by decide) (by decide) (by decide)
    rw [layF_edx A (4096 + 512 * i + (h0 % BitVec.ofNat 16 (Int.toNat 512)).toNat) (h1.setWidth 8) (by omega)] at he
    have hTl : (layF T (((edxF A (4096 + 512 * i + (h0 % BitVec.ofNat 16 (Int.toNat 512)).toNat) (h1.setWidth 8)).drop (0 + (4096 + 512 * i + (h0 % BitVec.ofNat 16 (Int.toNat 512)).toNat))).take 1) (4096 + 512 * i + (h0 % BitVec.ofNat 16 (Int.toNat 512)).toNat)).length = 16384 := by rw [layF_length (by rw [List.length_take, List.length_drop, edxF_length]; omega)]; exact hT
    generalize layF T (((edxF A (4096 + 512 * i + (h0 % BitVec.ofNat 16 (Int.toNat 512)).toNat) (h1.setWidth 8)).drop (0 + (4096 + 512 * i + (h0 % BitVec.ofNat 16 (Int.toNat 512)).toNat))).take 1) (4096 + 512 * i + (h0 % BitVec.ofNat 16 (Int.toNat 512)).toNat) = T1 at he hTl
    repeat first | refine EffG.mk (obA ?_) | refine obA ?_ | refine chkA ?_
    refine callA he [3, 4, 5, 14, 16] ?_ (hargs := congrArg (fun l => [D.ptr 3 [], .i64 ((4096 + 512 * i + (h0 % BitVec.ofNat 16 (Int.toNat 512)).toNat) : Nat), .slice 16 [] (0 + (4096 + 512 * i + (h0 % BitVec.ofNat 16 (Int.toNat 512)).toNat)) l none]) (edq i (h0 % BitVec.ofNat 16 (Int.toNat 512)).toNat).symm)
    repeat first | refine EffG.mk (obA ?_) | refine obA ?_ | refine chkA ?_
    refine nextA (i + 1, edxF A (4096 + 512 * i + (h0 % BitVec.ofNat 16 (Int.toNat 512)).toNat) (h1.setWidth 8), T1) [0, 1, 2, 3, 4, 5, 6, 7, 8, 9, 10, 11, 12, 13, 14, 15, 16] viewA (h1 := ⟨hi, by rw [edxF_length]; exact hA, hTl⟩) (h2 := by show 3 - (i + 1) < 3 - i; omega)
  · clear h hi hw hT
    repeat first | refine EffG.mk (obA ?_) | refine obA ?_ | refine chkA ?_ | refine brY ?_ | refine brN ?_
    have hld := dload2_ac 32768 4200 0 16384 16384 3 none none [x1, x2, x3] A none (by omega) (by decide) (by decide)
    have hdr := sdataR_ac 8 tg k1 k2 32768 4200 none 4200 none [] 3 ((A.drop 0).take 4200) 1 y (by decide) (by decide) hy (by decide) (by decide) (by decide) (by decide)
    have hpr := spageR_ac 8 tg k1 k2 32768 4200 none 4200 none [] 3 ((A.drop 0).take 4200) 2 yp (by decide) (by decide) hyp (by decide) (by decide) (by decide) (by decide)
    have hD : AC Tryd.prog 39 [.ptr 4 [], refD 1 y] 8 (spM 8 tg k1 k2 32768 16384 none 16384 none [x1, x2, x3] 3 A) ⟨.tup [.nilslice, .i64 40], [], []⟩ ∨ (leafF tg 1 ((A.drop 4096).take 512) = y ∧ ∃ X : List (BitVec 8), AC Tryd.prog 39 [.ptr 4 [], refD 1 y] 8 (spM 8 tg k1 k2 32768 16384 none 16384 none [x1, x2, x3] 3 A) ⟨.tup [.slice 8 [] 0 512 none, .i64 0], [], [(.row .cell, .u8s X)]⟩) := by
      by_cases he : leafF tg 1 ((A.drop 4096).take 512) = y
      · exact .inr ⟨he, _, sdata_ac 8 tg k1 k2 32768 16384 none 16384 none [x1, x2, x3] 3 A 1 y r1 r2 (by decide) (by decide) ht hy hA (by decide) (by decide) (by decide) (by decide) he⟩
      · exact .inl (sdataN_ac 8 tg k1 k2 32768 16384 none 16384 none [x1, x2, x3] 3 A 1 y (by decide) (by decide) ht hy hA (by decide) (by decide) (by decide) (by decide) he)
    have hP : AC Tryd.prog 41 [.ptr 4 [], refD 2 yp] 8 (spM 8 tg k1 k2 32768 16384 none 16384 none [x1, x2, x3] 3 A) ⟨.tup [.nilslice, .i64 40], [], []⟩ ∨ (AC Tryd.prog 43 [.slice 0 [] 4608 512 none] 1 [(0, some ⟨.row .cell, .u8s A, false⟩), gR] ⟨.u8s yp, [], []⟩ ∧ ∃ X : List (BitVec 8), AC Tryd.prog 41 [.ptr 4 [], refD 2 yp] 8 (spM 8 tg k1 k2 32768 16384 none 16384 none [x1, x2, x3] 3 A) ⟨.tup [.slice 8 [] 0 512 none, .i64 0], [], [(.row .cell, .u8s X)]⟩) := by
      by_cases he : pageF ((A.drop 4608).take 512) = yp
      · refine .inr ⟨?_, _, spage_ac 8 tg k1 k2 32768 16384 none 16384 none [x1, x2, x3] 3 A 2 yp (by decide) (by decide) hyp hA (by decide) (by decide) (by decide) (by decide) he⟩
        have := npage_ac A 4608 512 none (by omega) (by decide) (by decide)
        rw [show shaF (pageS ++ (A.drop 4608).take 512) = yp from he] at this
        exact this
      · exact .inl (spageN_ac 8 tg k1 k2 32768 16384 none 16384 none [x1, x2, x3] 3 A 2 yp (by decide) (by decide) hyp hA (by decide) (by decide) (by decide) (by decide) he)
    have hN := snode_or 8 tg k1 k2 32768 16384 none 16384 none [x1, x2, x3] 3 A 3 yn (by decide) (by decide) hyn hA (by decide) (by decide) (by decide) (by decide)
    have hNs : nodeF ((A.drop 5120).take 512) = yn → AC Tryd.prog 44 [.slice 0 [] 5120 512 none] 1 [(0, some ⟨.row .cell, .u8s A, false⟩), gR] ⟨.u8s yn, [], []⟩ := fun he => by
      have := nsum_ac A 5120 512 none (by omega) (by decide) (by decide)
      rw [show shaF (nodeS ++ (A.drop 5120).take 512) = yn from he] at this
      exact this
    have hsm := fun he => hsm A y 1 4096 none hy (by omega) he
    clear r1 r2 ht hK
    rcases hD with hD | ⟨hd, X, hD⟩
    · rcases hP with hP | ⟨hPs, Y, hP⟩
      · rcases hN with hN | ⟨a0, a1, a2, a3, a4, a5, a6, a7, s0, s1, s2, s3, s4, s5, s6, s7, hN, hns, l0, l1, l2, l3, l4, l5, l6, l7⟩
        · clear hNs
          refine callA hD [3, 4, 5, 14, 6, 7, 8, 9] ?_
          repeat first | refine EffG.mk (obA ?_) | refine obA ?_ | refine chkA ?_ | refine Br.yes rfl ?_ | refine Br.no rfl ?_ | refine Br.no (neN rfl) ?_
          refine callA hP [3, 4, 5, 14, 6, 7, 8, 9] ?_
          repeat first | refine EffG.mk (obA ?_) | refine obA ?_ | refine chkA ?_ | refine Br.yes rfl ?_ | refine Br.no rfl ?_ | refine Br.no (neN rfl) ?_
          refine callT hN [3, 4, 5, 14, 6, 7, 8, 9] (.tup [node0, .i64 40]) ?_
          iterate 4 (first | refine EffG.mk (obA ?_) | refine obA ?_ | refine chkA ?_)
          refine storeG (node0) rfl rfl rfl rfl rfl rfl rfl rfl rfl trivial n0ty ?_
          repeat first | refine EffG.mk (obA ?_) | refine obA ?_ | refine chkA ?_ | refine Br.yes rfl ?_ | refine Br.no rfl ?_ | refine Br.no (neN rfl) ?_
          refine callA hld [3, 4, 5, 14, 16] ?_
          repeat first | refine EffG.mk (obA ?_) | refine obA ?_ | refine chkA ?_ | refine Br.yes rfl ?_ | refine Br.no rfl ?_ | refine Br.no (neN rfl) ?_
          refine callA hdr [3, 18, 19, 18, 6, 7, 8, 9] ?_
          repeat first | refine EffG.mk (obA ?_) | refine obA ?_ | refine chkA ?_ | refine Br.yes rfl ?_ | refine Br.no rfl ?_ | refine Br.no (neN rfl) ?_
          refine callA hpr [3, 18, 19, 18, 6, 7, 8, 9] ?_
          repeat first | refine EffG.mk (obA ?_) | refine obA ?_ | refine chkA ?_ | refine Br.yes rfl ?_ | refine Br.no rfl ?_ | refine Br.no (neN rfl) ?_
          refine callA awake16_ac [] ?_
          repeat first | refine EffG.mk (obA ?_) | refine obA ?_ | refine chkA ?_ | refine Br.yes rfl ?_ | refine Br.no rfl ?_ | refine Br.no (neN rfl) ?_
          refine retA []
        · have hNs := hNs hns
          clear hns
          refine callA hD [3, 4, 5, 14, 6, 7, 8, 9] ?_
          repeat first | refine EffG.mk (obA ?_) | refine obA ?_ | refine chkA ?_ | refine Br.yes rfl ?_ | refine Br.no rfl ?_ | refine Br.no (neN rfl) ?_
          refine callA hP [3, 4, 5, 14, 6, 7, 8, 9] ?_
          repeat first | refine EffG.mk (obA ?_) | refine obA ?_ | refine chkA ?_ | refine Br.yes rfl ?_ | refine Br.no rfl ?_ | refine Br.no (neN rfl) ?_
          refine callT hN [3, 4, 5, 14, 6, 7, 8, 9] (.tup [nodeD8 a0 a1 a2 a3 a4 a5 a6 a7 s0 s1 s2 s3 s4 s5 s6 s7, .i64 0]) ?_
          iterate 4 (first | refine EffG.mk (obA ?_) | refine obA ?_ | refine chkA ?_)
          refine storeG (nodeD8 a0 a1 a2 a3 a4 a5 a6 a7 s0 s1 s2 s3 s4 s5 s6 s7) rfl rfl rfl rfl rfl rfl rfl rfl rfl trivial (n8ty l0 l1 l2 l3 l4 l5 l6 l7) ?_
          repeat first | refine EffG.mk (obA ?_) | refine obA ?_ | refine chkA ?_ | refine Br.yes rfl ?_ | refine Br.no rfl ?_ | refine Br.no (neN rfl) ?_
          refine callA hNs [16] ?_
          repeat first | refine EffG.mk (obA ?_) | refine obA ?_ | refine chkA ?_ | refine Br.yes rfl ?_ | refine Br.no rfl ?_ | refine Br.no (neN rfl) ?_
          refine callA hld [3, 4, 5, 14, 16] ?_
          repeat first | refine EffG.mk (obA ?_) | refine obA ?_ | refine chkA ?_ | refine Br.yes rfl ?_ | refine Br.no rfl ?_ | refine Br.no (neN rfl) ?_
          refine callA hdr [3, 18, 19, 18, 6, 7, 8, 9] ?_
          repeat first | refine EffG.mk (obA ?_) | refine obA ?_ | refine chkA ?_ | refine Br.yes rfl ?_ | refine Br.no rfl ?_ | refine Br.no (neN rfl) ?_
          refine callA hpr [3, 18, 19, 18, 6, 7, 8, 9] ?_
          repeat first | refine EffG.mk (obA ?_) | refine obA ?_ | refine chkA ?_ | refine Br.yes rfl ?_ | refine Br.no rfl ?_ | refine Br.no (neN rfl) ?_
          refine callA awake16_ac [] ?_
          repeat first | refine EffG.mk (obA ?_) | refine obA ?_ | refine chkA ?_ | refine Br.yes rfl ?_ | refine Br.no rfl ?_ | refine Br.no (neN rfl) ?_
          refine retA []
      · rcases hN with hN | ⟨a0, a1, a2, a3, a4, a5, a6, a7, s0, s1, s2, s3, s4, s5, s6, s7, hN, hns, l0, l1, l2, l3, l4, l5, l6, l7⟩
        · clear hNs
          refine callA hD [3, 4, 5, 14, 6, 7, 8, 9] ?_
          repeat first | refine EffG.mk (obA ?_) | refine obA ?_ | refine chkA ?_ | refine Br.yes rfl ?_ | refine Br.no rfl ?_ | refine Br.no (neN rfl) ?_
          refine callA hP [3, 4, 5, 14, 6, 7, 8, 9] ?_
          repeat first | refine EffG.mk (obA ?_) | refine obA ?_ | refine chkA ?_ | refine Br.yes rfl ?_ | refine Br.no rfl ?_ | refine Br.no (neN rfl) ?_
          refine callT hN [3, 4, 5, 14, 6, 7, 8, 9] (.tup [node0, .i64 40]) ?_
          iterate 4 (first | refine EffG.mk (obA ?_) | refine obA ?_ | refine chkA ?_)
          refine storeG (node0) rfl rfl rfl rfl rfl rfl rfl rfl rfl trivial n0ty ?_
          repeat first | refine EffG.mk (obA ?_) | refine obA ?_ | refine chkA ?_ | refine Br.yes rfl ?_ | refine Br.no rfl ?_ | refine Br.no (neN rfl) ?_
          refine callA hPs [16] ?_
          repeat first | refine EffG.mk (obA ?_) | refine obA ?_ | refine chkA ?_ | refine Br.yes rfl ?_ | refine Br.no rfl ?_ | refine Br.no (neN rfl) ?_
          refine callA hld [3, 4, 5, 14, 16] ?_
          repeat first | refine EffG.mk (obA ?_) | refine obA ?_ | refine chkA ?_ | refine Br.yes rfl ?_ | refine Br.no rfl ?_ | refine Br.no (neN rfl) ?_
          refine callA hdr [3, 19, 20, 19, 6, 7, 8, 9] ?_
          repeat first | refine EffG.mk (obA ?_) | refine obA ?_ | refine chkA ?_ | refine Br.yes rfl ?_ | refine Br.no rfl ?_ | refine Br.no (neN rfl) ?_
          refine callA hpr [3, 19, 20, 19, 6, 7, 8, 9] ?_
          repeat first | refine EffG.mk (obA ?_) | refine obA ?_ | refine chkA ?_ | refine Br.yes rfl ?_ | refine Br.no rfl ?_ | refine Br.no (neN rfl) ?_
          refine callA awake16_ac [] ?_
          repeat first | refine EffG.mk (obA ?_) | refine obA ?_ | refine chkA ?_ | refine Br.yes rfl ?_ | refine Br.no rfl ?_ | refine Br.no (neN rfl) ?_
          refine retA []
        · have hNs := hNs hns
          clear hns
          refine callA hD [3, 4, 5, 14, 6, 7, 8, 9] ?_
          repeat first | refine EffG.mk (obA ?_) | refine obA ?_ | refine chkA ?_ | refine Br.yes rfl ?_ | refine Br.no rfl ?_ | refine Br.no (neN rfl) ?_
          refine callA hP [3, 4, 5, 14, 6, 7, 8, 9] ?_
          repeat first | refine EffG.mk (obA ?_) | refine obA ?_ | refine chkA ?_ | refine Br.yes rfl ?_ | refine Br.no rfl ?_ | refine Br.no (neN rfl) ?_
          refine callT hN [3, 4, 5, 14, 6, 7, 8, 9] (.tup [nodeD8 a0 a1 a2 a3 a4 a5 a6 a7 s0 s1 s2 s3 s4 s5 s6 s7, .i64 0]) ?_
          iterate 4 (first | refine EffG.mk (obA ?_) | refine obA ?_ | refine chkA ?_)
          refine storeG (nodeD8 a0 a1 a2 a3 a4 a5 a6 a7 s0 s1 s2 s3 s4 s5 s6 s7) rfl rfl rfl rfl rfl rfl rfl rfl rfl trivial (n8ty l0 l1 l2 l3 l4 l5 l6 l7) ?_
          repeat first | refine EffG.mk (obA ?_) | refine obA ?_ | refine chkA ?_ | refine Br.yes rfl ?_ | refine Br.no rfl ?_ | refine Br.no (neN rfl) ?_
          refine callA hPs [16] ?_
          repeat first | refine EffG.mk (obA ?_) | refine obA ?_ | refine chkA ?_ | refine Br.yes rfl ?_ | refine Br.no rfl ?_ | refine Br.no (neN rfl) ?_
          refine callA hNs [16] ?_
          repeat first | refine EffG.mk (obA ?_) | refine obA ?_ | refine chkA ?_ | refine Br.yes rfl ?_ | refine Br.no rfl ?_ | refine Br.no (neN rfl) ?_
          refine callA hld [3, 4, 5, 14, 16] ?_
          repeat first | refine EffG.mk (obA ?_) | refine obA ?_ | refine chkA ?_ | refine Br.yes rfl ?_ | refine Br.no rfl ?_ | refine Br.no (neN rfl) ?_
          refine callA hdr [3, 19, 20, 19, 6, 7, 8, 9] ?_
          repeat first | refine EffG.mk (obA ?_) | refine obA ?_ | refine chkA ?_ | refine Br.yes rfl ?_ | refine Br.no rfl ?_ | refine Br.no (neN rfl) ?_
          refine callA hpr [3, 19, 20, 19, 6, 7, 8, 9] ?_
          repeat first | refine EffG.mk (obA ?_) | refine obA ?_ | refine chkA ?_ | refine Br.yes rfl ?_ | refine Br.no rfl ?_ | refine Br.no (neN rfl) ?_
          refine callA awake16_ac [] ?_
          repeat first | refine EffG.mk (obA ?_) | refine obA ?_ | refine chkA ?_ | refine Br.yes rfl ?_ | refine Br.no rfl ?_ | refine Br.no (neN rfl) ?_
          refine retA []
    · have hsm := hsm hd
      clear hd
      rcases hP with hP | ⟨hPs, Y, hP⟩
      · rcases hN with hN | ⟨a0, a1, a2, a3, a4, a5, a6, a7, s0, s1, s2, s3, s4, s5, s6, s7, hN, hns, l0, l1, l2, l3, l4, l5, l6, l7⟩
        · clear hNs
          refine callA hD [3, 4, 5, 14, 6, 7, 8, 9] ?_
          repeat first | refine EffG.mk (obA ?_) | refine obA ?_ | refine chkA ?_ | refine Br.yes rfl ?_ | refine Br.no rfl ?_ | refine Br.no (neN rfl) ?_
          refine callA hP [3, 4, 5, 14, 6, 7, 8, 9] ?_
          repeat first | refine EffG.mk (obA ?_) | refine obA ?_ | refine chkA ?_ | refine Br.yes rfl ?_ | refine Br.no rfl ?_ | refine Br.no (neN rfl) ?_
          refine callT hN [3, 4, 5, 14, 6, 7, 8, 9] (.tup [node0, .i64 40]) ?_
          iterate 4 (first | refine EffG.mk (obA ?_) | refine obA ?_ | refine chkA ?_)
          refine storeG (node0) rfl rfl rfl rfl rfl rfl rfl rfl rfl trivial n0ty ?_
          repeat first | refine EffG.mk (obA ?_) | refine obA ?_ | refine chkA ?_ | refine Br.yes rfl ?_ | refine Br.no rfl ?_ | refine Br.no (neN rfl) ?_
          refine callA hld [3, 4, 5, 14, 16] ?_
          repeat first | refine EffG.mk (obA ?_) | refine obA ?_ | refine chkA ?_ | refine Br.yes rfl ?_ | refine Br.no rfl ?_ | refine Br.no (neN rfl) ?_
          refine callA hdr [3, 19, 20, 19, 6, 7, 8, 9] ?_
          repeat first | refine EffG.mk (obA ?_) | refine obA ?_ | refine chkA ?_ | refine Br.yes rfl ?_ | refine Br.no rfl ?_ | refine Br.no (neN rfl) ?_
          refine callA hpr [3, 19, 20, 19, 6, 7, 8, 9] ?_
          repeat first | refine EffG.mk (obA ?_) | refine obA ?_ | refine chkA ?_ | refine Br.yes rfl ?_ | refine Br.no rfl ?_ | refine Br.no (neN rfl) ?_
          refine callA hsm [16] ?_
          repeat first | refine EffG.mk (obA ?_) | refine obA ?_ | refine chkA ?_ | refine Br.yes rfl ?_ | refine Br.no rfl ?_ | refine Br.no (neN rfl) ?_
          refine callA awake16_ac [] ?_
          repeat first | refine EffG.mk (obA ?_) | refine obA ?_ | refine chkA ?_ | refine Br.yes rfl ?_ | refine Br.no rfl ?_ | refine Br.no (neN rfl) ?_
          refine retA []
        · have hNs := hNs hns
          clear hns
          refine callA hD [3, 4, 5, 14, 6, 7, 8, 9] ?_
          repeat first | refine EffG.mk (obA ?_) | refine obA ?_ | refine chkA ?_ | refine Br.yes rfl ?_ | refine Br.no rfl ?_ | refine Br.no (neN rfl) ?_
          refine callA hP [3, 4, 5, 14, 6, 7, 8, 9] ?_
          repeat first | refine EffG.mk (obA ?_) | refine obA ?_ | refine chkA ?_ | refine Br.yes rfl ?_ | refine Br.no rfl ?_ | refine Br.no (neN rfl) ?_
          refine callT hN [3, 4, 5, 14, 6, 7, 8, 9] (.tup [nodeD8 a0 a1 a2 a3 a4 a5 a6 a7 s0 s1 s2 s3 s4 s5 s6 s7, .i64 0]) ?_
          iterate 4 (first | refine EffG.mk (obA ?_) | refine obA ?_ | refine chkA ?_)
          refine storeG (nodeD8 a0 a1 a2 a3 a4 a5 a6 a7 s0 s1 s2 s3 s4 s5 s6 s7) rfl rfl rfl rfl rfl rfl rfl rfl rfl trivial (n8ty l0 l1 l2 l3 l4 l5 l6 l7) ?_
          repeat first | refine EffG.mk (obA ?_) | refine obA ?_ | refine chkA ?_ | refine Br.yes rfl ?_ | refine Br.no rfl ?_ | refine Br.no (neN rfl) ?_
          refine callA hNs [16] ?_
          repeat first | refine EffG.mk (obA ?_) | refine obA ?_ | refine chkA ?_ | refine Br.yes rfl ?_ | refine Br.no rfl ?_ | refine Br.no (neN rfl) ?_
          refine callA hld [3, 4, 5, 14, 16] ?_
          repeat first | refine EffG.mk (obA ?_) | refine obA ?_ | refine chkA ?_ | refine Br.yes rfl ?_ | refine Br.no rfl ?_ | refine Br.no (neN rfl) ?_
          refine callA hdr [3, 19, 20, 19, 6, 7, 8, 9] ?_
          repeat first | refine EffG.mk (obA ?_) | refine obA ?_ | refine chkA ?_ | refine Br.yes rfl ?_ | refine Br.no rfl ?_ | refine Br.no (neN rfl) ?_
          refine callA hpr [3, 19, 20, 19, 6, 7, 8, 9] ?_
          repeat first | refine EffG.mk (obA ?_) | refine obA ?_ | refine chkA ?_ | refine Br.yes rfl ?_ | refine Br.no rfl ?_ | refine Br.no (neN rfl) ?_
          refine callA hsm [16] ?_
          repeat first | refine EffG.mk (obA ?_) | refine obA ?_ | refine chkA ?_ | refine Br.yes rfl ?_ | refine Br.no rfl ?_ | refine Br.no (neN rfl) ?_
          refine callA awake16_ac [] ?_
          repeat first | refine EffG.mk (obA ?_) | refine obA ?_ | refine chkA ?_ | refine Br.yes rfl ?_ | refine Br.no rfl ?_ | refine Br.no (neN rfl) ?_
          refine retA []
      · rcases hN with hN | ⟨a0, a1, a2, a3, a4, a5, a6, a7, s0, s1, s2, s3, s4, s5, s6, s7, hN, hns, l0, l1, l2, l3, l4, l5, l6, l7⟩
        · clear hNs
          refine callA hD [3, 4, 5, 14, 6, 7, 8, 9] ?_
          repeat first | refine EffG.mk (obA ?_) | refine obA ?_ | refine chkA ?_ | refine Br.yes rfl ?_ | refine Br.no rfl ?_ | refine Br.no (neN rfl) ?_
          refine callA hP [3, 4, 5, 14, 6, 7, 8, 9] ?_
          repeat first | refine EffG.mk (obA ?_) | refine obA ?_ | refine chkA ?_ | refine Br.yes rfl ?_ | refine Br.no rfl ?_ | refine Br.no (neN rfl) ?_
          refine callT hN [3, 4, 5, 14, 6, 7, 8, 9] (.tup [node0, .i64 40]) ?_
          iterate 4 (first | refine EffG.mk (obA ?_) | refine obA ?_ | refine chkA ?_)
          refine storeG (node0) rfl rfl rfl rfl rfl rfl rfl rfl rfl trivial n0ty ?_
          repeat first | refine EffG.mk (obA ?_) | refine obA ?_ | refine chkA ?_ | refine Br.yes rfl ?_ | refine Br.no rfl ?_ | refine Br.no (neN rfl) ?_
          refine callA hPs [16] ?_
          repeat first | refine EffG.mk (obA ?_) | refine obA ?_ | refine chkA ?_ | refine Br.yes rfl ?_ | refine Br.no rfl ?_ | refine Br.no (neN rfl) ?_
          refine callA hld [3, 4, 5, 14, 16] ?_
          repeat first | refine EffG.mk (obA ?_) | refine obA ?_ | refine chkA ?_ | refine Br.yes rfl ?_ | refine Br.no rfl ?_ | refine Br.no (neN rfl) ?_
          refine callA hdr [3, 20, 21, 20, 6, 7, 8, 9] ?_
          repeat first | refine EffG.mk (obA ?_) | refine obA ?_ | refine chkA ?_ | refine Br.yes rfl ?_ | refine Br.no rfl ?_ | refine Br.no (neN rfl) ?_
          refine callA hpr [3, 20, 21, 20, 6, 7, 8, 9] ?_
          repeat first | refine EffG.mk (obA ?_) | refine obA ?_ | refine chkA ?_ | refine Br.yes rfl ?_ | refine Br.no rfl ?_ | refine Br.no (neN rfl) ?_
          refine callA hsm [16] ?_
          repeat first | refine EffG.mk (obA ?_) | refine obA ?_ | refine chkA ?_ | refine Br.yes rfl ?_ | refine Br.no rfl ?_ | refine Br.no (neN rfl) ?_
          refine callA awake16_ac [] ?_
          repeat first | refine EffG.mk (obA ?_) | refine obA ?_ | refine chkA ?_ | refine Br.yes rfl ?_ | refine Br.no rfl ?_ | refine Br.no (neN rfl) ?_
          refine retA []
        · have hNs := hNs hns
          clear hns
          refine callA hD [3, 4, 5, 14, 6, 7, 8, 9] ?_
          repeat first | refine EffG.mk (obA ?_) | refine obA ?_ | refine chkA ?_ | refine Br.yes rfl ?_ | refine Br.no rfl ?_ | refine Br.no (neN rfl) ?_
          refine callA hP [3, 4, 5, 14, 6, 7, 8, 9] ?_
          repeat first | refine EffG.mk (obA ?_) | refine obA ?_ | refine chkA ?_ | refine Br.yes rfl ?_ | refine Br.no rfl ?_ | refine Br.no (neN rfl) ?_
          refine callT hN [3, 4, 5, 14, 6, 7, 8, 9] (.tup [nodeD8 a0 a1 a2 a3 a4 a5 a6 a7 s0 s1 s2 s3 s4 s5 s6 s7, .i64 0]) ?_
          iterate 4 (first | refine EffG.mk (obA ?_) | refine obA ?_ | refine chkA ?_)
          refine storeG (nodeD8 a0 a1 a2 a3 a4 a5 a6 a7 s0 s1 s2 s3 s4 s5 s6 s7) rfl rfl rfl rfl rfl rfl rfl rfl rfl trivial (n8ty l0 l1 l2 l3 l4 l5 l6 l7) ?_
          repeat first | refine EffG.mk (obA ?_) | refine obA ?_ | refine chkA ?_ | refine Br.yes rfl ?_ | refine Br.no rfl ?_ | refine Br.no (neN rfl) ?_
          refine callA hPs [16] ?_
          repeat first | refine EffG.mk (obA ?_) | refine obA ?_ | refine chkA ?_ | refine Br.yes rfl ?_ | refine Br.no rfl ?_ | refine Br.no (neN rfl) ?_
          refine callA hNs [16] ?_
          repeat first | refine EffG.mk (obA ?_) | refine obA ?_ | refine chkA ?_ | refine Br.yes rfl ?_ | refine Br.no rfl ?_ | refine Br.no (neN rfl) ?_
          refine callA hld [3, 4, 5, 14, 16] ?_
          repeat first | refine EffG.mk (obA ?_) | refine obA ?_ | refine chkA ?_ | refine Br.yes rfl ?_ | refine Br.no rfl ?_ | refine Br.no (neN rfl) ?_
          refine callA hdr [3, 20, 21, 20, 6, 7, 8, 9] ?_
          repeat first | refine EffG.mk (obA ?_) | refine obA ?_ | refine chkA ?_ | refine Br.yes rfl ?_ | refine Br.no rfl ?_ | refine Br.no (neN rfl) ?_
          refine callA hpr [3, 20, 21, 20, 6, 7, 8, 9] ?_
          repeat first | refine EffG.mk (obA ?_) | refine obA ?_ | refine chkA ?_ | refine Br.yes rfl ?_ | refine Br.no rfl ?_ | refine Br.no (neN rfl) ?_
          refine callA hsm [16] ?_
          repeat first | refine EffG.mk (obA ?_) | refine obA ?_ | refine chkA ?_ | refine Br.yes rfl ?_ | refine Br.no rfl ?_ | refine Br.no (neN rfl) ?_
          refine callA awake16_ac [] ?_
          repeat first | refine EffG.mk (obA ?_) | refine obA ?_ | refine chkA ?_ | refine Br.yes rfl ?_ | refine Br.no rfl ?_ | refine Br.no (neN rfl) ?_
          refine retA []
end Go.Proofs.YtodkhgofmgaafaaDoor.Av

namespace Go.Proofs.YtodkhgofmgaafaaDoor.Av
open Go Go.ChangeShapes Go.WideShapes
set_option linter.all false
set_option maxRecDepth 3000

/-! from a contract to a row of a law over plain data -/

/-- the same, where the code reads one of the package's variables -/
theorem calls_bool_g {P : Program} {f : Nat} {args : List D} (g : Nat) {T : Ty} {d : D} (h : AC P f args 0 [(gid g, some ⟨T, d, false⟩)] ⟨.bool true, [], []⟩) {W : World} {vals : List Value} (hv : All2 (Rep (fun _ => none)) args vals)
    {L : Loc} (hL : L.blk = g ∧ L.base = 0) (hs : SatE (fun _ => none) ⟨T, d, false⟩ L W) :
    Calls P f vals.toArray W fun e W' => e = .returned (.bool true) ∧ W'.os = W.os ∧ W'.output = W.output ∧ W.heap.size ≤ W'.heap.size ∧ ∀ b, b < W.heap.size → W'.heap[b]? = W.heap[b]? := by
  let ρ0 : Env := fun i => if i = gid g then some L else none
  have hle : Env.le (fun _ => none) ρ0 := fun i L h => by cases h
  have hget : ∀ i e, get [(gid g, some ⟨T, d, false⟩)] i = some e → i = gid g ∧ e = ⟨T, d, false⟩ := fun i e h => by
    rw [get_cons] at h
    split at h
    · rename_i e1; cases h; exact ⟨e1.symm, rfl⟩
    · cases h
  refine (h.2 ρ0 W vals (hv.mono fun a b hab => Rep.mono hle hab)
    ⟨fun g' L' h' => ?_, fun i e hi => ?_, fun i j ei ej Li Lj hi hj hne hr => ?_, fun i e L' hi hr => ?_, fun _ _ _ => rfl, Nat.le_refl _, rfl, rfl, rfl⟩ (fun i hi => ?_)).mono fun e W' ⟨v, ρ', he, _, _, hr, hI⟩ => ?_
  · have h' : (if gid g' = gid g then some L else none) = some L' := h'
    split at h'
    · rename_i e1
      cases h'
      have : g' = g := by unfold gid at e1; omega
      rw [this]; exact hL
    · cases h'
  · obtain ⟨rfl, rfl⟩ := hget i e hi
    exact ⟨L, if_pos rfl, hs.mono hle⟩
  · obtain ⟨_, rfl⟩ := hget i ei hi
    cases hr
  · obtain ⟨_, rfl⟩ := hget i e hi
    cases hr
  · have hi : (if i = gid g then some L else none) ≠ none := hi
    split at hi
    · rename_i e1
      right; rw [e1]; unfold gid; omega
    · exact absurd rfl hi
  · have hr : v = .bool true := hr
    subst hr
    refine ⟨he, hI.os, hI.out, hI.size, fun b hb => hI.ext b hb (fun ⟨i, e, L', h1, h2, _⟩ => ?_)⟩
    obtain ⟨_, rfl⟩ := hget i e h1
    cases h2

theorem rep_u8 {ρ : Env} {n : Int} (h : (Lit.int .u8 n).wf = true) : Rep ρ (.u8 (BitVec.ofNat 8 n.toNat)) (.int .u8 n) := by
  simp only [Lit.wf, Bool.and_eq_true, decide_eq_true_eq] at h
  have h1 : (0 : Int) ≤ n := h.1
  have h2 : n < 256 := by
    have := h.2
    have e : IntKind.u8.max = 255 := by decide
    omega
  show Value.int _ _ = .int _ _
  congr 1
  simp; omega

theorem kept_of_same {W W' : World} (ho : W'.os = W.os) (hp : W'.output = W.output) (hs : ∀ b, b < W.heap.size → W'.heap[b]? = W.heap[b]?) (may : MemPlace → Prop) : W.keptBut W' may := by
  refine ⟨ho, hp, fun i hi => ?_⟩
  rw [hs i hi]
  split
  · rename_i h1 h2
    rw [h1] at h2; cases h2
    exact ⟨rfl, rfl, rfl, fun _ _ => rfl⟩
  · rename_i h1 h2
    rw [h1] at h2; cases h2
    exact .inr ⟨rfl, rfl⟩
  · rfl

section
variable {H : Type} {enc : TypeId × Value → H} {P : Program}
theorem post_flat {f : Func} {s : ChangeSpec} {apart fresh handsOn : Bool} {W W' : World} {args : Array Value} {v : Value} {ds gs : List (DataW H)}
    (hW : DataW.Whole enc P f.params.toList s.vars apart W args.toList ds gs [])
    (hres : ∀ (b : Nat) (sp : Nat → Bool) (hd : Bool), DataW.TrodAll enc P W' b sp hd f.resultTypes.toList (v.resultList f.resultTypes.size) (s.fn H (ds ++ gs)).results [])
    (hargs : ∀ sp : Nat → Bool, DataW.TrodAll enc P W' 0 sp true f.params.toList args.toList (s.fn H (ds ++ gs)).args [])
    (hvars : ∀ sp : Nat → Bool, DataW.TrodVars enc P W' sp s.vars (s.fn H (ds ++ gs)).vars [])
    (hk : W.keptBut W' (fun _ => False)) : s.post enc P f apart fresh handsOn false W args v W' :=
  ⟨ds, gs, [], [], [], [], hW, hres _ _ _, hargs _, hvars _, World.keptBut_mono (fun _ h => h.elim) hk, (fun h => nomatch h)⟩

theorem mapM_none {α β : Type} {f g : α → Option (β × List MemPlace)} : ∀ {l : List α} {r : List (β × List MemPlace)}, l.mapM f = some r → (∀ x y, x ∈ l → f x = some y → y.2 = [] ∧ g x = some y) → l.mapM g = some r ∧ r.flatMap (·.2) = []
  | [], r, h, _ => by
    simp at h; subst h; exact ⟨rfl, rfl⟩
  | a :: l, r, h, hfg => by
    rw [List.mapM_cons] at h ⊢
    simp only [bind, Option.bind_eq_some_iff, pure, Option.some.injEq] at h
    obtain ⟨y, hy, ys, hys, rfl⟩ := h
    obtain ⟨h1, h2⟩ := hfg a y (by simp) hy
    obtain ⟨h3, h4⟩ := mapM_none hys (fun x y hx => hfg x y (List.mem_cons_of_mem _ hx))
    rw [h2, h3]
    exact ⟨rfl, by rw [List.flatMap_cons, h1, h4]; rfl⟩

end
end Go.Proofs.YtodkhgofmgaafaaDoor.Av

namespace Go.Proofs.YtodkhgofmgaafaaDoor.Av
open Go Go.ChangeShapes Go.WideShapes
set_option linter.all false
set_option maxRecDepth 3000

/-! slices of bytes that came in, and are only read -/

section
variable {H : Type} {enc : TypeId × Value → H} {P : Program}

end

section
variable {H : Type} {enc : TypeId × Value → H} {P : Program}

/-- an array of bytes among cells: its bytes; it reads so anywhere -/
theorem trod_u8s {t e : TypeId} {n : Nat} (ht : P.underlying t = some (.array n e)) (he : P.underlying e = some (.int .u8)) (hc : P.cellsOf e = 1) (hs : P.cellsOf t = n) {base : Nat} {W : World} {cs : List Value} {y : DataW H × List MemPlace}
    {sp : Nat → Bool} {held : Bool} {fuel : Nat} (hf : DataW.trod enc P W base sp held fuel t cs = some y) :
    y.2 = [] ∧ (∃ l : List (BitVec 8), l.length = n ∧ ∀ ρ, All2 (RepS ρ) (l.map D.u8) cs) ∧ ∀ (W' : World) (base' : Nat) (sp' : Nat → Bool) (held' : Bool), DataW.trod enc P W' base' sp' held' fuel t cs = some y := by
  obtain ⟨ys, m, rfl, hx, hl, hys, hi⟩ := DataW.trod_array ht hf
  have hget : ∀ i, i < n → ∃ a, cs[i]? = some (.int .u8 a) ∧ (Lit.int .u8 a).wf = true := by
    intro i hin
    have h := hi i hin
    rw [List.getElem?_eq_getElem (by omega)] at h
    obtain ⟨a, h1, _, h2⟩ := DataW.trod_int he h
    rw [hc, Nat.mul_one] at h1
    refine ⟨a, ?_, h2⟩
    have := congrArg (·[0]?) h1
    simpa [List.getElem?_take, List.getElem?_drop] using this
  have hlen : cs.length = n := by rw [hl, hs]
  have key : ∀ (cs : List Value), (∀ i, i < cs.length → ∃ a, cs[i]? = some (.int .u8 a) ∧ (Lit.int .u8 a).wf = true) → ∃ l : List (BitVec 8), l.length = cs.length ∧ ∀ ρ, All2 (RepS ρ) (l.map D.u8) cs := by
    intro cs
    induction cs with
    | nil => intro _; exact ⟨[], rfl, fun _ => trivial⟩
    | cons c cs ih =>
      intro h
      obtain ⟨a, h1, h2⟩ := h 0 (by simp)
      simp at h1; subst h1
      obtain ⟨l, h3, h4⟩ := ih (fun i hi => by simpa using h (i + 1) (by simpa using hi))
      exact ⟨BitVec.ofNat 8 a.toNat :: l, by simp [h3], fun ρ => ⟨rep_u8 (ρ := ρ) h2, h4 ρ⟩⟩
  obtain ⟨l, h1, h2⟩ := key cs (by rw [hlen]; exact hget)
  have hstay : ∀ (W' : World) (base' : Nat) (sp' : Nat → Bool) (held' : Bool), DataW.trod enc P W' base' sp' held' (m + 1) t cs = some y ∧ y.2 = [] := by
    intro W' base' sp' held'
    unfold DataW.trod at hf ⊢
    rw [ht] at hf ⊢
    simp only [hl, if_true, Option.map_eq_some_iff] at hf ⊢
    obtain ⟨zs, hz, hzx⟩ := hf
    obtain ⟨h3, h4⟩ := mapM_none (g := fun i => DataW.trod enc P W' base' sp' held' m e ((cs.drop (i * P.cellsOf e)).take (P.cellsOf e))) hz (fun i y _ hy => by
      obtain ⟨a, e1, e2, e3⟩ := DataW.trod_int he hy
      rw [e2]
      refine ⟨rfl, ?_⟩
      rw [e1]
      cases m with
      | zero => simp [DataW.trod] at hy
      | succ m => simp [DataW.trod, he, e3])
    refine ⟨⟨zs, h3, hzx⟩, ?_⟩
    rw [← hzx]; exact h4
  exact ⟨(hstay W 0 sp held).2, ⟨l, by rw [h1, hlen], h2⟩, fun W' base' sp' held' => (hstay W' base' sp' held').1⟩

theorem rep_u64 {ρ : Env} {n : Int} (h : (Lit.int .u64 n).wf = true) : Rep ρ (.u64 (BitVec.ofNat 64 n.toNat)) (.int .u64 n) := by
  simp only [Lit.wf, Bool.and_eq_true, decide_eq_true_eq] at h
  have h1 : (0 : Int) ≤ n := h.1
  have h2 : n < 18446744073709551616 := by
    have := h.2
    have e : IntKind.u64.max = 18446744073709551615 := by decide
    omega
  show Value.int _ _ = .int _ _
  congr 1
  simp; omega

end

section
variable {H : Type} {enc : TypeId × Value → H} {P : Program}
end
end Go.Proofs.YtodkhgofmgaafaaDoor.Av

namespace Go.Proofs.YtodkhgofmgaafaaDoor.Av
open Go Go.ChangeShapes Go.WideShapes
set_option linter.all false
set_option maxRecDepth 3000

/-! a law whose code reads some of the package's variables -/
/-- a variable that is an array of words, as its reading says -/
theorem sat_u32s {P : Program} {W : World} {name : String} {g t e n : Nat} (hg : P.globalNamed name = some g) (hty : (P.globals[g]?).map (·.type) = some t) (ht : P.underlying t = some (.array n e)) (he : P.underlying e = some (.int .u32))
    (hc : P.cellsOf e = 1) (hs : P.cellsOf t = n) {l : List (BitVec 32)} (hl : l.length = n) (h : Lib.VarReads P W name (.agg (l.map fun b => .lit (.int .u32 b.toNat)))) :
    SatE (fun _ => none) ⟨.arr n .cell, .u32s l, false⟩ ⟨g, 0, n, .arr n .cell⟩ W := by
  obtain ⟨g', t', cs, fuel, p, q1, q2, q3, q4⟩ := h
  obtain rfl := Option.some.inj (hg.symm.trans q1)
  obtain rfl := Option.some.inj (hty.symm.trans q2)
  have hcs : cs.toList = (l.map fun b => (b.toNat : Int)).map fun z => Value.int .u32 z := by
    have q5 : DataW.trod (fun _ => ()) P W 0 (fun _ => true) false fuel t cs.toList = some (Lib.tabData .u32 (l.map fun b => (b.toNat : Int)), p) := by
      rw [q4]; unfold Lib.tabData; rw [List.map_map]; rfl
    exact Lib.cells_of_tab ht he hc hs q5
  simp only [World.var?, hg, Option.bind_some] at q3
  split at q3 <;> try contradiction
  rename_i C T fr hC
  cases q3
  have hlen : cs.size = n := by
    have := congrArg List.length hcs
    simpa [hl] using this
  refine ⟨rfl, trivial, hl, cs, T, fr, [], cs.toList, [], hC, by simp, rfl, hlen, ?_, fun h => by cases h⟩
  rw [hcs, List.map_map]
  show All2 _ (l.map D.u32) _
  have : ∀ l : List (BitVec 32), All2 (RepS (fun _ => none)) (l.map D.u32) (l.map ((fun z => Value.int .u32 z) ∘ fun b => (b.toNat : Int))) := by
    intro l
    induction l with
    | nil => trivial
    | cons a r ih => exact ⟨rfl, ih⟩
  exact this l

section
variable {H : Type} {enc : TypeId × Value → H} {P : Program}
end
end Go.Proofs.YtodkhgofmgaafaaDoor.Av

namespace Go.Proofs.YtodkhgofmgaafaaDoor.Av
open Go Go.ChangeShapes Go.WideShapes
set_option linter.all false
set_option maxRecDepth 3000

/-! plain data of any shape: its values, told by its type alone -/
def canEs (F : TypeId → D → Prop) : List TypeId → List D → Prop
  | [], [] => True
  | t :: ts, d :: ds => F t d ∧ canEs F ts ds
  | _, _ => False

def oddB (P : Program) (e : TypeId) : Nat := match P.underlying e with
  | some (.int .u8) => 1
  | some (.int .u32) => 2
  | some (.int .u64) => 2
  | _ => 0
theorem oddB_one {P : Program} {e : TypeId} (h : oddB P e = 1) : P.underlying e = some (.int .u8) := by
  unfold oddB at h
  split at h
  · assumption
  all_goals omega
def canE (P : Program) : Nat → TypeId → D → Prop
  | 0, _, _ => False
  | n + 1, t, x => match P.underlying t with
    | some .bool => ∃ b, x = .bool b
    | some (.int .u8) => ∃ b, x = .u8 b
    | some (.int .u16) => ∃ b, x = .u16 b
    | some (.int .u32) => ∃ b, x = .u32 b
    | some (.int .u64) => ∃ b, x = .u64 b
    | some (.int .i64) => ∃ b : Int, x = .i64 b ∧ -9223372036854775808 ≤ b ∧ b < 9223372036854775808
    | some (.array c e) => match oddB P e with
      | 1 => ∃ l, x = .u8s l ∧ l.length = c
      | _ => ∃ l, x = .node l ∧ l.length = c ∧ AllD (canE P n e) l
    | some (.struct fs) => ∃ l, x = .node l ∧ canEs (canE P n) (fs.toList.map (·.type)) l
    | _ => False

theorem rep_u16 {ρ : Env} {n : Int} (h : (Lit.int .u16 n).wf = true) : Rep ρ (.u16 (BitVec.ofNat 16 n.toNat)) (.int .u16 n) := by
  simp only [Lit.wf, Bool.and_eq_true, decide_eq_true_eq] at h
  have h1 : (0 : Int) ≤ n := h.1
  have h2 : n < 65536 := by
    have := h.2
    have e : IntKind.u16.max = 65535 := by decide
    omega
  show Value.int _ _ = .int _ _
  congr 1
  simp; omega
theorem rep_u32 {ρ : Env} {n : Int} (h : (Lit.int .u32 n).wf = true) : Rep ρ (.u32 (BitVec.ofNat 32 n.toNat)) (.int .u32 n) := by
  simp only [Lit.wf, Bool.and_eq_true, decide_eq_true_eq] at h
  have h1 : (0 : Int) ≤ n := h.1
  have h2 : n < 4294967296 := by
    have := h.2
    have e : IntKind.u32.max = 4294967295 := by decide
    omega
  show Value.int _ _ = .int _ _
  congr 1
  simp; omega
theorem rep_i64 {n : Int} (h : (Lit.int .i64 n).wf = true) : -9223372036854775808 ≤ n ∧ n < 9223372036854775808 := by
  simp only [Lit.wf, Bool.and_eq_true, decide_eq_true_eq] at h
  have h1 : IntKind.i64.min ≤ n := h.1
  have e1 : IntKind.i64.min = -9223372036854775808 := by decide
  have e : IntKind.i64.max = 9223372036854775807 := by decide
  have h2 : n ≤ IntKind.i64.max := h.2
  omega

/-- fields one behind the other, from o on -/
def inRow (P : Program) : List Field → Nat → Nat → Bool
  | [], o, e => o == e
  | f :: fs, o, e => f.offset == o && inRow P fs (o + P.cellsOf f.type) e

def flatT (P : Program) : Nat → TypeId → Bool
  | 0, _ => false
  | n + 1, t => match P.underlying t with
    | some .bool => true
    | some (.int .u8) => true
    | some (.int .u16) => true
    | some (.int .u32) => true
    | some (.int .u64) => true
    | some (.int .i64) => true
    | some (.array c e) => match oddB P e with
      | 0 => P.cellsOf t == c * P.cellsOf e && flatT P n e
      | 1 => P.cellsOf e == 1 && P.cellsOf t == c
      | _ => false
    | some (.struct fs) => inRow P fs.toList 0 (P.cellsOf t) && fs.toList.all (fun f => flatT P n f.type)
    | _ => false

section
variable {H : Type} {enc : TypeId × Value → H} {P : Program}

theorem mapM_rows {α : Type} (F : TypeId → D → Prop) (g g' : α → Option (DataW H × List MemPlace)) (ty : α → TypeId) (chunk : α → List Value) : ∀ (l : List α) (r : List (DataW H × List MemPlace)), l.mapM g = some r →
    (∀ a ∈ l, ∀ y, g a = some y → y.2 = [] ∧ g' a = some y ∧ ∃ d, F (ty a) d ∧ ∀ ρ, All2 (RepS ρ) d.flat (chunk a)) →
    l.mapM g' = some r ∧ r.flatMap (·.2) = [] ∧ ∃ ds : List D, ds.length = l.length ∧ canEs F (l.map ty) ds ∧ ∀ ρ, All2 (RepS ρ) (D.flats ds) (l.flatMap chunk)
  | [], r, h, _ => by
    simp at h; subst h
    exact ⟨rfl, rfl, [], rfl, trivial, fun _ => trivial⟩
  | a :: l, r, h, hg => by
    rw [List.mapM_cons] at h ⊢
    simp only [bind, Option.bind_eq_some_iff, pure, Option.some.injEq] at h
    obtain ⟨y, hy, ys, hys, rfl⟩ := h
    obtain ⟨h1, h2, d, h3, h4⟩ := hg a (by simp) y hy
    obtain ⟨k1, k2, ds, k3, k4, k5⟩ := mapM_rows F g g' ty chunk l ys hys (fun b hb => hg b (by simp [hb]))
    rw [h2, k1]
    refine ⟨rfl, by rw [List.flatMap_cons, h1, k2]; rfl, d :: ds, by simp [k3], ⟨h3, k4⟩, fun ρ => ?_⟩
    rw [List.flatMap_cons]
    exact (h4 ρ).append (k5 ρ)

theorem inRow_cells (cs : List Value) : ∀ (fs : List Field) (o e : Nat), inRow P fs o e = true → e = cs.length → fs.flatMap (fun f => (cs.drop f.offset).take (P.cellsOf f.type)) = cs.drop o
  | [], o, e, h, he => by
    simp only [inRow, beq_iff_eq] at h
    rw [h, he, List.drop_length]; rfl
  | f :: fs, o, e, h, he => by
    simp only [inRow, Bool.and_eq_true, beq_iff_eq] at h
    rw [List.flatMap_cons, inRow_cells cs fs _ e h.2 he, h.1, ← List.drop_drop, List.take_append_drop]

theorem canEs_rep (F : TypeId → D → Prop) (e : TypeId) : ∀ (n : Nat) (ds : List D), canEs F (List.replicate n e) ds → ds.length = n ∧ AllD (F e) ds
  | 0, [], _ => ⟨rfl, trivial⟩
  | n + 1, d :: ds, h => by
    obtain ⟨h1, h2⟩ := canEs_rep F e n ds h.2
    exact ⟨by simp [h1], h.1, h2⟩
  | 0, _ :: _, h => h.elim
  | n + 1, [], h => h.elim

theorem range_chunks {α : Type} (c : Nat) : ∀ (n : Nat) (cs : List α), cs.length = n * c → (List.range n).flatMap (fun i => (cs.drop (i * c)).take c) = cs
  | 0, cs, h => by
    have : cs = [] := List.length_eq_zero_iff.1 (by omega)
    rw [this]; rfl
  | n + 1, cs, h => by
    rw [List.range_succ_eq_map, List.flatMap_cons, List.flatMap_map]
    have e := range_chunks c n (cs.drop c) (by rw [List.length_drop, h, Nat.add_mul]; omega)
    have : (fun i => ((cs.drop c).drop (i * c)).take c) = (fun i => (cs.drop ((i + 1) * c)).take c) := by
      funext i
      rw [List.drop_drop]
      congr 2
      rw [Nat.add_mul]; omega
    rw [this] at e
    rw [Nat.zero_mul, List.drop_zero, e, List.take_append_drop]

theorem trod_flat : ∀ (n : Nat) {t : TypeId} (_ : flatT P n t = true) {W : World} {base fuel : Nat} {sp : Nat → Bool} {held : Bool} {cs : List Value} {y : DataW H × List MemPlace}, DataW.trod enc P W base sp held fuel t cs = some y →
    y.2 = [] ∧ (∃ d, canE P n t d ∧ ∀ ρ, All2 (RepS ρ) d.flat cs) ∧ ∀ (W' : World) (base' : Nat) (sp' : Nat → Bool) (held' : Bool), DataW.trod enc P W' base' sp' held' fuel t cs = some y := by
  intro n
  induction n with
  | zero => intro t h; cases h
  | succ n ih =>
    intro t h W base fuel sp held cs y hd
    cases hu : P.underlying t with
    | none => simp [flatT, hu] at h
    | some T =>
      have int : ∀ {k : IntKind} (_ : T = .int k) (_ : ∀ z, (Lit.int k z).wf = true → ∃ d, canE P (n + 1) t d ∧ ∀ ρ, All2 (RepS ρ) d.flat [.int k z]),
          y.2 = [] ∧ (∃ d, canE P (n + 1) t d ∧ ∀ ρ, All2 (RepS ρ) d.flat cs) ∧ ∀ (W' : World) (base' : Nat) (sp' : Nat → Bool) (held' : Bool), DataW.trod enc P W' base' sp' held' fuel t cs = some y := by
        intro k hT h1
        subst hT
        obtain ⟨a, rfl, rfl, e3⟩ := DataW.trod_int hu hd
        refine ⟨rfl, h1 a e3, fun W' base' sp' held' => ?_⟩
        cases fuel with
        | zero => simp [DataW.trod] at hd
        | succ m => simp [DataW.trod, hu, e3]
      cases T with
      | bool =>
        obtain ⟨b, rfl, rfl⟩ := DataW.trod_bool hu hd
        refine ⟨rfl, ⟨.bool b, by simp only [canE, hu]; exact ⟨b, rfl⟩, fun ρ => ⟨rfl, trivial⟩⟩, fun W' base' sp' held' => ?_⟩
        cases fuel with
        | zero => simp [DataW.trod] at hd
        | succ m => simp [DataW.trod, hu]
      | int k =>
        cases k with
        | u8 => exact int rfl fun z hz => ⟨.u8 (BitVec.ofNat 8 z.toNat), by simp only [canE, hu]; exact ⟨_, rfl⟩, fun ρ => ⟨rep_u8 (ρ := ρ) hz, trivial⟩⟩
        | u16 => exact int rfl fun z hz => ⟨.u16 (BitVec.ofNat 16 z.toNat), by simp only [canE, hu]; exact ⟨_, rfl⟩, fun ρ => ⟨rep_u16 (ρ := ρ) hz, trivial⟩⟩
        | u32 => exact int rfl fun z hz => ⟨.u32 (BitVec.ofNat 32 z.toNat), by simp only [canE, hu]; exact ⟨_, rfl⟩, fun ρ => ⟨rep_u32 (ρ := ρ) hz, trivial⟩⟩
        | u64 => exact int rfl fun z hz => ⟨.u64 (BitVec.ofNat 64 z.toNat), by simp only [canE, hu]; exact ⟨_, rfl⟩, fun ρ => ⟨rep_u64 (ρ := ρ) hz, trivial⟩⟩
        | i64 => exact int rfl fun z hz => ⟨.i64 z, by simp only [canE, hu]; exact ⟨_, rfl, (rep_i64 hz).1, (rep_i64 hz).2⟩, fun ρ => ⟨(show Value.int .i64 z = .int .i64 z ∧ _ from ⟨rfl, rep_i64 hz⟩), trivial⟩⟩
        | _ => simp [flatT, hu] at h
      | array c e =>
        by_cases he : oddB P e = 1
        · simp only [flatT, hu, he, Bool.and_eq_true, beq_iff_eq] at h
          obtain ⟨h1, ⟨l, h2, h3⟩, h4⟩ := trod_u8s hu (oddB_one he) h.1 h.2 hd
          exact ⟨h1, ⟨.u8s l, by simp only [canE, hu, he]; exact ⟨l, rfl, h2⟩, h3⟩, h4⟩
        · have he0 : oddB P e = 0 := by
            simp only [flatT, hu] at h
            split at h
            · assumption
            · contradiction
            · cases h
          simp only [flatT, hu, he0, Bool.and_eq_true, beq_iff_eq] at h
          cases fuel with
          | zero => simp [DataW.trod] at hd
          | succ m =>
            have hd0 := hd
            unfold DataW.trod at hd
            rw [hu] at hd
            simp only at hd
            split at hd
            rotate_left
            · cases hd
            rename_i hlen
            rw [Option.map_eq_some_iff] at hd
            obtain ⟨xs, hx, rfl⟩ := hd
            have hs : cs.length = c * P.cellsOf e := by rw [hlen, h.1]
            obtain ⟨_, k2, ds, k3, k4, k5⟩ := mapM_rows (canE P n) _ (fun i => DataW.trod enc P W base sp held m e ((cs.drop (i * P.cellsOf e)).take (P.cellsOf e))) (fun _ => e) (fun i => (cs.drop (i * P.cellsOf e)).take (P.cellsOf e)) _ _ hx (fun i _ z hz => by
              obtain ⟨h1, h2, h3⟩ := ih h.2 hz
              exact ⟨h1, hz, h2⟩)
            rw [List.map_const', List.length_range] at k4
            obtain ⟨k6, k7⟩ := canEs_rep (canE P n) e c ds k4
            refine ⟨k2, ⟨.node ds, ?_, fun ρ => ?_⟩, fun W' base' sp' held' => ?_⟩
            · simp only [canE, hu, he0]
              exact ⟨ds, rfl, k6, k7⟩
            · have := k5 ρ
              rw [range_chunks _ _ cs hs] at this
              exact this
            · obtain ⟨j1, _⟩ := mapM_rows (canE P n) _ (fun i => DataW.trod enc P W' base' sp' held' m e ((cs.drop (i * P.cellsOf e)).take (P.cellsOf e))) (fun _ => e) (fun i => (cs.drop (i * P.cellsOf e)).take (P.cellsOf e)) _ _ hx (fun i _ z hz => by
                obtain ⟨h1, h2, h3⟩ := ih h.2 hz
                exact ⟨h1, h3 W' base' sp' held', h2⟩)
              unfold DataW.trod
              rw [hu]
              simp only
              rw [if_pos hlen, j1]
              rfl
      | struct fs =>
        simp only [flatT, hu, Bool.and_eq_true, List.all_eq_true] at h
        cases fuel with
        | zero => simp [DataW.trod] at hd
        | succ m =>
          have hd0 := hd
          unfold DataW.trod at hd
          rw [hu] at hd
          simp only at hd
          split at hd
          rotate_left
          · cases hd
          rename_i hlen
          rw [Option.map_eq_some_iff] at hd
          obtain ⟨xs, hx, rfl⟩ := hd
          obtain ⟨_, k2, ds, k3, k4, k5⟩ := mapM_rows (canE P n) _ (fun f => DataW.trod enc P W base sp held m f.type ((cs.drop f.offset).take (P.cellsOf f.type))) (fun f => f.type) (fun f => (cs.drop f.offset).take (P.cellsOf f.type)) _ _ hx (fun f hf z hz => by
            obtain ⟨h1, h2, h3⟩ := ih (h.2 f hf) hz
            exact ⟨h1, hz, h2⟩)
          refine ⟨k2, ⟨.node ds, ?_, fun ρ => ?_⟩, fun W' base' sp' held' => ?_⟩
          · unfold canE
            rw [hu]
            exact ⟨ds, rfl, k4⟩
          · have := k5 ρ
            rw [inRow_cells cs fs.toList 0 _ h.1 hlen.symm] at this
            exact this
          · obtain ⟨j1, _⟩ := mapM_rows (canE P n) _ (fun f => DataW.trod enc P W' base' sp' held' m f.type ((cs.drop f.offset).take (P.cellsOf f.type))) (fun f => f.type) (fun f => (cs.drop f.offset).take (P.cellsOf f.type)) _ _ hx (fun f hf z hz => by
              obtain ⟨h1, h2, h3⟩ := ih (h.2 f hf) hz
              exact ⟨h1, h3 W' base' sp' held', h2⟩)
            unfold DataW.trod
            rw [hu]
            simp only
            rw [if_pos hlen, j1]
            rfl
      | _ => simp [flatT, hu] at h

/-- plain data by value: what it holds; it reads so anywhere -/
theorem open_flat (n : Nat) {t : TypeId} (ht : flatT P n t = true) {r : Reach} {b0 base : Nat} {W : World} {v : Value} {d : DataW H} {ps : List MemPlace} {sp : Nat → Bool} {held : Bool} (hval : Value.okWide P W r b0 t v)
    (hagg : (match P.underlying t with | some (.array _ _) => true | some (.struct _) => true | _ => false) = true) (hd : DataW.Trod enc P W base sp held t v d ps) :
    ∃ x, canE P n t x ∧ ps = [] ∧ (∀ ρ, All2 (RepS ρ) x.flat v.cells.toList ∧ ∃ xs, v = .agg xs) ∧ ∀ (W' : World) (base' : Nat) (sp' : Nat → Bool) (held' : Bool), DataW.Trod enc P W' base' sp' held' t v d [] := by
  obtain ⟨fuel, hf⟩ := hd
  obtain ⟨h1, ⟨x, h2, h3⟩, h4⟩ := trod_flat n ht hf
  have hps : ps = [] := h1
  subst hps
  have : ∃ xs, v = .agg xs := by
    cases hu : P.underlying t with
    | none => simp [hu] at hagg
    | some T =>
      cases T <;> simp [hu] at hagg
      all_goals
        simp only [Value.okWide, hu] at hval
        obtain ⟨xs, rfl, _⟩ := hval
        exact ⟨xs, rfl⟩
  exact ⟨x, h2, rfl, fun ρ => ⟨h3 ρ, this⟩, fun W' base' sp' held' => ⟨fuel, h4 W' base' sp' held'⟩⟩
end
end Go.Proofs.YtodkhgofmgaafaaDoor.Av

namespace Go.Proofs.YtodkhgofmgaafaaDoor.Av
open Go Go.ChangeShapes Go.WideShapes
set_option linter.all false
set_option maxRecDepth 3000

/-! a law that reads a row of bytes, and some of the package's variables -/
end Go.Proofs.YtodkhgofmgaafaaDoor.Av
