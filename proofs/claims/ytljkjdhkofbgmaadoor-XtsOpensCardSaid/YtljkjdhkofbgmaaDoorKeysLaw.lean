import Derived.Test.YtljkjdhkofbgmaaDoorDec
namespace Go.Proofs.YtljkjdhkofbgmaaDoor.Av
open Go
set_option linter.all false
set_option maxRecDepth 3000

/-! what the round keys are, with no program in sight -/

def rndI : Nat → BitVec 8
  | 0 => 1
  | m + 1 => mulF (rndI m) 2

theorem schedI_round (key : List (BitVec 8)) : ∀ n, (schedI key n).2 = rndI ((n + 7) / 8)
  | 0 => rfl
  | n + 1 => by
    show (if n % 8 = 0 then mulF (schedI key n).2 2 else (schedI key n).2) = _
    rw [schedI_round key n]
    by_cases h : n % 8 = 0
    · rw [if_pos h, show (n + 1 + 7) / 8 = (n + 7) / 8 + 1 by omega]; rfl
    · rw [if_neg h, show (n + 1 + 7) / 8 = (n + 7) / 8 by omega]

theorem putI_low (f w : List (BitVec 8)) (n : Nat) (hf : 32 + 4 * n + 4 ≤ f.length) : ∀ k, k ≤ 4 → ∀ i, i < 32 + 4 * n → (putI f w n k).getD i 0 = f.getD i 0
  | 0, _, _, _ => rfl
  | k + 1, hk, i, hi => by
    rw [putI, getD_set (by rw [putI_length]; omega), if_neg (by omega)]
    exact putI_low f w n hf k (by omega) i hi

theorem putI_new (f w : List (BitVec 8)) (n : Nat) (hf : 32 + 4 * n + 4 ≤ f.length) : ∀ k, k ≤ 4 → ∀ j, j < k → (putI f w n k).getD (32 + 4 * n + j) 0 = f.getD (4 * n + j) 0 ^^^ w.getD j 0
  | 0, _, j, hj => by omega
  | k + 1, hk, j, hj => by
    rw [putI, getD_set (by rw [putI_length]; omega)]
    by_cases h : j = k
    · subst h
      rw [if_pos rfl, putI_low f w n hf j (by omega) (4 * n + j) (by omega)]
    · rw [if_neg (by omega)]
      exact putI_new f w n hf k (by omega) j (by omega)

section
variable (key : List (BitVec 8)) (hk : key.length = 32)
include hk
theorem sched_low (n : Nat) (hn : n < 52) (i : Nat) (hi : i < 32 + 4 * n) : (schedI key (n + 1)).1.getD i 0 = (schedI key n).1.getD i 0 :=
  putI_low _ _ _ (by rw [schedI_length key hk]; omega) 4 (Nat.le_refl _) i hi

theorem sched_stay (n i : Nat) (hi : i < 32 + 4 * n) : ∀ d, n + d ≤ 52 → (schedI key (n + d)).1.getD i 0 = (schedI key n).1.getD i 0
  | 0, _ => rfl
  | d + 1, h => by
    rw [← Nat.add_assoc, sched_low key hk (n + d) (by omega) i (by omega)]
    exact sched_stay n i hi d (by omega)

theorem sched_at (n i : Nat) (hn : n ≤ 52) (hi : i < 32 + 4 * n) : (schedI key 52).1.getD i 0 = (schedI key n).1.getD i 0 := by
  have := sched_stay key hk n i hi (52 - n) (by omega)
  rwa [show n + (52 - n) = 52 by omega] at this

theorem flat_key (i : Nat) (hi : i < 32) : (schedI key 52).1.getD i 0 = key.getD i 0 := by
  rw [sched_at key hk 0 i (by omega) (by omega)]
  show (List.take 0 (List.replicate 240 0) ++ List.take 32 (List.drop 0 key) ++ List.drop (0 + 32) (List.replicate 240 0)).getD i 0 = _
  rw [List.take_zero, List.nil_append, List.drop_zero, getD_append_left (by rw [List.length_take, hk]; omega), getD_take hi]

theorem flat_word (n j : Nat) (hn : n < 52) (hj : j < 4) : (schedI key 52).1.getD (32 + 4 * n + j) 0 = (schedI key 52).1.getD (4 * n + j) 0 ^^^ (wordF (schedI key n).1 (schedI key n).2 n).getD j 0 := by
  rw [sched_at key hk (n + 1) (32 + 4 * n + j) (by omega) (by omega), sched_at key hk n (4 * n + j) (by omega) (by omega)]
  exact putI_new _ _ _ (by rw [schedI_length key hk]; omega) 4 (Nat.le_refl _) j hj

theorem flat_w (n j : Nat) (hn : n < 52) (hj : j < 4) : (((schedI key n).1.drop (28 + 4 * n)).take 4).getD j 0 = (schedI key 52).1.getD (28 + 4 * n + j) 0 := by
  rw [getD_take hj, getD_drop, sched_at key hk n _ (by omega) (by omega)]
end

def pwF (m : Nat) : BitVec 8 := if (2 : BitVec 8) = 0 ∧ (m : Int) ≠ 0 then 0 else powF 2 (m : Int)
theorem rnd_pow : ∀ m, m < 7 → rndI m = pwF m := by decide +kernel

def want1 (A : List (BitVec 8)) (i : Nat) : BitVec 8 :=
  if i / 4 % 8 = 4 then A.getD (i - 32) 0 ^^^ sboxF (A.getD (i - 4) 0) else A.getD (i - 32) 0 ^^^ A.getD (i - 4) 0
def want0 (A : List (BitVec 8)) (i : Nat) : BitVec 8 := A.getD (i - 32) 0 ^^^ sboxF (A.getD (4 * (i / 4 - 1) + (i + 1) % 4) 0)
def wantF (A : List (BitVec 8)) (i : Nat) : BitVec 8 :=
  if i / 4 % 8 = 0 then (if i % 4 = 0 then want0 A i ^^^ pwF (i / 4 / 8 - 1) else want0 A i) else want1 A i

theorem keys_law (key : List (BitVec 8)) (hk : key.length = 32) (i : Nat) (h1 : 32 ≤ i) (h2 : i < 240) : (schedI key 52).1.getD i 0 = wantF (schedI key 52).1 i := by
  obtain ⟨n, j, hj, rfl⟩ : ∃ n j, j < 4 ∧ i = 32 + 4 * n + j := ⟨(i - 32) / 4, (i - 32) % 4, by omega, by omega⟩
  have hn : n < 52 := by omega
  have w0 := flat_w key hk n 0 hn (by omega)
  have w1 := flat_w key hk n 1 hn (by omega)
  have w2 := flat_w key hk n 2 hn (by omega)
  have w3 := flat_w key hk n 3 hn (by omega)
  rw [flat_word key hk n j hn hj, schedI_round]
  have e1 : (32 + 4 * n + j) / 4 = 8 + n := by omega
  have e2 : 32 + 4 * n + j - 32 = 4 * n + j := by omega
  have e3 : (8 + n) % 8 = n % 8 := by omega
  have e4 : 32 + 4 * n + j - 4 = 28 + 4 * n + j := by omega
  have e5 : (32 + 4 * n + j) % 4 = j := by omega
  have e6 : (8 + n) / 8 - 1 = n / 8 := by omega
  have e7 : 4 * (8 + n - 1) + (32 + 4 * n + j + 1) % 4 = 28 + 4 * n + (j + 1) % 4 := by omega
  have e8 : n % 8 = 0 → (n + 7) / 8 = n / 8 := by omega
  simp only [wantF, want0, want1, e1, e2, e3, e4, e5, e6, e7]
  unfold wordF
  simp only [w0, w1, w2, w3]
  by_cases h0 : n % 8 = 0
  · rw [if_pos h0, if_pos h0, e8 h0, rnd_pow (n / 8) (by omega)]
    rcases (by omega : j = 0 ∨ j = 1 ∨ j = 2 ∨ j = 3) with rfl | rfl | rfl | rfl
    · rw [if_pos rfl]
      generalize (schedI key 52).1 = fl
      exact (BitVec.xor_assoc _ _ _).symm
    all_goals (generalize (schedI key 52).1 = fl; rfl)
  · rw [if_neg h0, if_neg h0]
    by_cases h4 : n % 8 = 4
    · rw [if_pos h4, if_pos h4]
      rcases (by omega : j = 0 ∨ j = 1 ∨ j = 2 ∨ j = 3) with rfl | rfl | rfl | rfl
      all_goals (generalize (schedI key 52).1 = fl; rfl)
    · rw [if_neg h4, if_neg h4, flat_w key hk n j hn hj]

theorem outK_at (fl : List (BitVec 8)) : ∀ n, n ≤ 15 → ∀ j, j < n → (outK fl n).getD j [] = (fl.drop (16 * j)).take 16
  | 0, _, j, hj => by omega
  | n + 1, hn, j, hj => by
    rw [outK, getD_set (by rw [outK_length]; omega)]
    by_cases h : j = n
    · rw [if_pos h, h]
    · rw [if_neg h]
      exact outK_at fl n (by omega) j (by omega)

theorem keys_at (key : List (BitVec 8)) (i : Nat) (h : i < 240) : ((schedF key).getD (i / 16) []).getD (i % 16) 0 = (schedI key 52).1.getD i 0 := by
  unfold schedF
  rw [outK_at _ 15 (Nat.le_refl _) (i / 16) (by omega), getD_take (by omega), getD_drop, show 16 * (i / 16) + i % 16 = i by omega]

def allI (ks : List (List (BitVec 8))) : Nat → List (BitVec 8)
  | 0 => List.replicate 240 0
  | n + 1 => (allI ks n).set n ((ks.getD (n / 16) []).getD (n % 16) 0)
theorem allI_length (ks : List (List (BitVec 8))) : ∀ n, (allI ks n).length = 240
  | 0 => List.length_replicate ..
  | n + 1 => by rw [allI, List.length_set, allI_length ks n]
theorem allI_at (ks : List (List (BitVec 8))) : ∀ n, n ≤ 240 → ∀ i, i < n → (allI ks n).getD i 0 = (ks.getD (i / 16) []).getD (i % 16) 0
  | 0, _, i, hi => by omega
  | n + 1, hn, i, hi => by
    rw [allI, getD_set (by rw [allI_length]; omega)]
    by_cases h : i = n
    · rw [if_pos h, h]
    · rw [if_neg h]
      exact allI_at ks n (by omega) i (by omega)
theorem ext_getD {l r : List (BitVec 8)} (h : l.length = r.length) (hi : ∀ i, i < l.length → l.getD i 0 = r.getD i 0) : l = r := by
  refine List.ext_getElem h fun i h1 h2 => ?_
  have := hi i h1
  rwa [List.getD_eq_getElem?_getD, List.getD_eq_getElem?_getD, List.getElem?_eq_getElem h1, List.getElem?_eq_getElem h2] at this
theorem all_flat (key : List (BitVec 8)) (hk : key.length = 32) : allI (schedF key) 240 = (schedI key 52).1 := by
  refine ext_getD (by rw [allI_length, schedI_length key hk]) fun i hi => ?_
  rw [allI_length] at hi
  rw [allI_at _ 240 (Nat.le_refl _) i hi, keys_at key i hi]
end Go.Proofs.YtljkjdhkofbgmaaDoor.Av
