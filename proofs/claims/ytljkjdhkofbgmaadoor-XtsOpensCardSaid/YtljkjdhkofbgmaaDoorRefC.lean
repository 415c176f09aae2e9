import Derived.Test.YtljkjdhkofbgmaaDoorRefB
import Derived.Test.YtljkjdhkofbgmaaDoorKeysLaw
namespace Go.Proofs.YtljkjdhkofbgmaaDoor.Av
open Go
set_option linter.all false
set_option maxRecDepth 3000

/-! the document's round keys are the program's: with no program in sight -/

theorem rndJ_eq : ∀ m, rndJ m = rndI m
  | 0 => rfl
  | m + 1 => by rw [rndJ, rndI, rndJ_eq m]

theorem rkI_row {ws : List (List (BitVec 8))} (h : Rows 60 4 ws) (i : Nat) (h8 : 8 ≤ i) (hi : i < 60) (t : List (BitVec 8)) : ∀ k, k ≤ 4 →
    (∀ j, j ≠ i → (rkI ws i t k).getD j [] = ws.getD j []) ∧ ∀ m, m < k → ((rkI ws i t k).getD i []).getD m 0 = (ws.getD (i - 8) []).getD m 0 ^^^ t.getD m 0
  | 0, _ => ⟨fun _ _ => rfl, fun m hm => by omega⟩
  | k + 1, hk => by
    obtain ⟨h1, h2⟩ := rkI_row h i h8 hi t k (by omega)
    have hr := rkI_rows h i hi t k
    have hl := hr.1
    have hl2 := hr.get hi
    refine ⟨fun j hj => ?_, fun m hm => ?_⟩
    · rw [rkI, getD_set (by omega), if_neg hj, h1 j hj]
    · rw [rkI, getD_set (by omega), if_pos rfl, getD_set (by omega)]
      by_cases e : m = k
      · subst e
        rw [if_pos rfl, h1 (i - 8) (by omega)]
      · rw [if_neg e]
        exact h2 m (by omega)

theorem rwI_step (key : List (BitVec 8)) (i j : Nat) (hi : i < 60) (hj : j ≠ i) : (rwI key (i + 1)).getD j [] = (rwI key i).getD j [] := by
  have hr := rwI_rows key i (by omega)
  have hl := hr.1
  rw [rwI]
  split
  · rw [getD_set (by omega), if_neg hj]
  · exact (rkI_row hr i (by omega) hi _ 4 (Nat.le_refl _)).1 j hj
theorem rwI_stay (key : List (BitVec 8)) (i j : Nat) (hj : j < i) : ∀ d, i + d ≤ 60 → (rwI key (i + d)).getD j [] = (rwI key i).getD j []
  | 0, _ => rfl
  | d + 1, h => by
    rw [← Nat.add_assoc, rwI_step key (i + d) j (by omega) (by omega)]
    exact rwI_stay key i j hj d (by omega)
theorem rwI_at (key : List (BitVec 8)) (i j : Nat) (hj : j < i) (hi : i ≤ 60) : (rwI key 60).getD j [] = (rwI key i).getD j [] := by
  have := rwI_stay key i j hj (60 - i) (by omega)
  rwa [show i + (60 - i) = 60 by omega] at this

theorem rw_flat (key : List (BitVec 8)) (hk : key.length = 32) : ∀ i, i < 60 → ∀ k, k < 4 → ((rwI key 60).getD i []).getD k 0 = (schedI key 52).1.getD (4 * i + k) 0 := by
  intro i
  induction i using Nat.strongRecOn with
  | _ i ih =>
    intro hi k hk4
    have hr := rwI_rows key i (by omega)
    have hl := hr.1
    rw [rwI_at key (i + 1) i (by omega) (by omega), rwI]
    by_cases h8 : i < 8
    · rw [if_pos h8, getD_set (by omega), if_pos rfl, flat_key key hk (4 * i + k) (by omega)]
      rcases (by omega : k = 0 ∨ k = 1 ∨ k = 2 ∨ k = 3) with rfl | rfl | rfl | rfl <;> rfl
    · rw [if_neg h8, (rkI_row hr i (by omega) hi _ 4 (Nat.le_refl _)).2 k hk4, ← rwI_at key i (i - 8) (by omega) (by omega), ih (i - 8) (by omega) (by omega) k hk4]
      obtain ⟨n, rfl⟩ : ∃ n, i = 8 + n := ⟨i - 8, by omega⟩
      have hn : n < 52 := by omega
      have e1 : 4 * (8 + n) + k = 32 + 4 * n + k := by omega
      have e2 : 4 * (8 + n - 8) + k = 4 * n + k := by omega
      rw [e1, e2, flat_word key hk n k hn hk4]
      have ht : ∀ m, m < 4 → ((rwI key (8 + n)).getD (8 + n - 1) []).getD m 0 = (schedI key 52).1.getD (28 + 4 * n + m) 0 := fun m hm => by
        rw [← rwI_at key (8 + n) (8 + n - 1) (by omega) (by omega), ih (8 + n - 1) (by omega) (by omega) m hm]
        congr 1
        omega
      have w0 := (flat_w key hk n 0 hn (by omega)).trans (ht 0 (by omega)).symm
      have w1 := (flat_w key hk n 1 hn (by omega)).trans (ht 1 (by omega)).symm
      have w2 := (flat_w key hk n 2 hn (by omega)).trans (ht 2 (by omega)).symm
      have w3 := (flat_w key hk n 3 hn (by omega)).trans (ht 3 (by omega)).symm
      have wk := (flat_w key hk n k hn hk4).trans (ht k hk4).symm
      congr 1
      rw [schedI_round]
      unfold rtF wordF
      simp only [w0, w1, w2, w3]
      have e3 : (8 + n) % 8 = n % 8 := by omega
      have e4 : n % 8 = 0 → (n + 7) / 8 = (8 + n) / 8 - 1 := by omega
      rw [e3]
      by_cases h0 : n % 8 = 0
      · rw [if_pos h0, if_pos h0, e4 h0, rpow_rnd _ (by omega), rndJ_eq]
      · rw [if_neg h0, if_neg h0]
        by_cases h4 : n % 8 = 4
        · rw [if_pos h4, if_pos h4]
        · rw [if_neg h4, if_neg h4, wk]

theorem roK_row {o : List (List (BitVec 8))} (ws : List (List (BitVec 8))) (h : Rows 15 16 o) (i : Nat) (hi : i < 60) : ∀ k, k ≤ 4 → ∀ j m, j < 15 → m < 16 →
    ((roK ws o i k).getD j []).getD m 0 = if 4 * i ≤ 16 * j + m ∧ 16 * j + m < 4 * i + k then (ws.getD i []).getD (m % 4) 0 else (o.getD j []).getD m 0
  | 0, _, j, m, _, _ => by rw [if_neg (by omega)]; rfl
  | k + 1, hk, j, m, hj, hm => by
    have hr := roK_rows ws h i hi k
    have hl := hr.1
    have hl2 : ((roK ws o i k).getD (i / 4) []).length = 16 := hr.get (by omega)
    have ih := roK_row ws h i hi k (by omega) j m hj hm
    rw [roK, getD_set (by omega)]
    by_cases hji : j = i / 4
    · rw [if_pos hji, getD_set (by omega)]
      by_cases hmk : m = 4 * (i % 4) + k
      · rw [if_pos hmk, if_pos (by omega), show m % 4 = k by omega]
      · rw [if_neg hmk, ← hji, ih]
        by_cases hc : 4 * i ≤ 16 * j + m ∧ 16 * j + m < 4 * i + k
        · rw [if_pos hc, if_pos (by omega)]
        · rw [if_neg hc, if_neg (by omega)]
    · rw [if_neg hji, ih]
      by_cases hc : 4 * i ≤ 16 * j + m ∧ 16 * j + m < 4 * i + k
      · rw [if_pos hc, if_pos (by omega)]
      · rw [if_neg hc, if_neg (by omega)]

theorem roI_row (ws : List (List (BitVec 8))) : ∀ i, i ≤ 60 → ∀ j m, j < 15 → m < 16 → 16 * j + m < 4 * i → ((roI ws i).getD j []).getD m 0 = (ws.getD ((16 * j + m) / 4) []).getD (m % 4) 0
  | 0, _, j, m, _, _, h => by omega
  | i + 1, hi, j, m, hj, hm, h => by
    rw [roI, roK_row ws (roI_rows ws i (by omega)) i (by omega) 4 (Nat.le_refl _) j m hj hm]
    by_cases hc : 4 * i ≤ 16 * j + m ∧ 16 * j + m < 4 * i + 4
    · rw [if_pos hc, show (16 * j + m) / 4 = i by omega]
    · rw [if_neg hc]
      exact roI_row ws i (by omega) j m hj hm (by omega)

theorem rows_ext {n m : Nat} {a b : List (List (BitVec 8))} (ha : Rows n m a) (hb : Rows n m b) (h : ∀ i, i < n → ∀ k, k < m → (a.getD i []).getD k 0 = (b.getD i []).getD k 0) : a = b := by
  refine List.ext_getElem (ha.1.trans hb.1.symm) fun i h1 h2 => ?_
  have hi : i < n := by rw [← ha.1]; exact h1
  have e1 : a[i] = a.getD i [] := by rw [List.getD_eq_getElem?_getD, List.getElem?_eq_getElem h1]; rfl
  have e2 : b[i] = b.getD i [] := by rw [List.getD_eq_getElem?_getD, List.getElem?_eq_getElem h2]; rfl
  rw [e1, e2]
  refine ext_getD ((ha.get hi).trans (hb.get hi).symm) fun k hk => h i hi k (by rw [← ha.get hi]; exact hk)

theorem rschF_rows (key : List (BitVec 8)) : Rows 15 16 (rschF key) := by
  unfold rschF
  exact roI_rows (rwI key 60) 60 (Nat.le_refl 60)
theorem rschF_at (key : List (BitVec 8)) (j m : Nat) (hj : j < 15) (hm : m < 16) : ((rschF key).getD j []).getD m 0 = ((rwI key 60).getD ((16 * j + m) / 4) []).getD (m % 4) 0 := by
  unfold rschF
  exact roI_row (rwI key 60) 60 (Nat.le_refl 60) j m hj hm (by omega)

theorem rsch_eq (key : List (BitVec 8)) (hk : key.length = 32) : rschF key = schedF key := by
  have h2 : Rows 15 16 (schedF key) := ⟨schedF_length key, schedF_lens key hk⟩
  refine rows_ext (rschF_rows key) h2 fun j hj m hm => ?_
  have e := keys_at key (16 * j + m) (by omega)
  have e1 : (16 * j + m) / 16 = j := by omega
  have e2 : (16 * j + m) % 16 = m := by omega
  have e3 : 4 * ((16 * j + m) / 4) + m % 4 = 16 * j + m := by omega
  have e4 := rw_flat key hk ((16 * j + m) / 4) (by omega) (m % 4) (by omega)
  rw [e3] at e4
  rw [e1, e2] at e
  exact (rschF_at key j m hj hm).trans (e4.trans e.symm)
end Go.Proofs.YtljkjdhkofbgmaaDoor.Av
