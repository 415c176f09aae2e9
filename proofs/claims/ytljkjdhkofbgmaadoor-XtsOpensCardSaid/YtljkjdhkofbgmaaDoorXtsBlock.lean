import Derived.Test.YtljkjdhkofbgmaaDoorXtsAwake
namespace Go.Proofs.YtljkjdhkofbgmaaDoor.Av
open Go
set_option linter.all false
set_option maxRecDepth 3000

/-! a block between its tweaks -/
theorem xorI_getD (s k : List (BitVec 8)) : ∀ n x, n ≤ s.length → x < n → (xorI s k n).getD x 0 = s.getD x 0 ^^^ k.getD x 0
  | 0, x, _, hx => by omega
  | n + 1, x, hn, hx => by
    rw [xorI, getD_set (by rw [xorI_length]; omega)]
    split
    · next h =>
      subst h
      exact congrArg (· ^^^ k.getD x 0) (xorI_rest s k x x (by omega) (Nat.le_refl _))
    · exact xorI_getD s k n x (by omega) (by omega)
where
  xorI_rest (s k : List (BitVec 8)) : ∀ n x, n ≤ s.length → n ≤ x → (xorI s k n).getD x 0 = s.getD x 0
    | 0, x, _, _ => rfl
    | n + 1, x, hn, hx => by
      rw [xorI, getD_set (by rw [xorI_length]; omega), if_neg (by omega)]
      exact xorI_rest s k n x (by omega) (by omega)
theorem chunk_getD (l : List (BitVec 8)) (o j : Nat) (hj : j < 16) : (chunk l o).getD j 0 = l.getD (o + j) 0 := by
  unfold chunk; rw [getD_take hj, getD_drop]

/-- what a loop lays that goes through a block -/
def pbI (b t : List (BitVec 8)) (o : Nat) : Nat → List (BitVec 8)
  | 0 => List.replicate 16 0
  | j + 1 => (pbI b t o j).set j (b.getD (o + j) 0 ^^^ t.getD j 0)
theorem pbI_length (b t : List (BitVec 8)) (o : Nat) : ∀ j, (pbI b t o j).length = 16
  | 0 => rfl
  | j + 1 => by rw [pbI, List.length_set, pbI_length b t o j]
theorem pbI_getD (b t : List (BitVec 8)) (o : Nat) : ∀ n x, n ≤ 16 → x < n → (pbI b t o n).getD x 0 = b.getD (o + x) 0 ^^^ t.getD x 0
  | 0, x, _, hx => by omega
  | n + 1, x, hn, hx => by
    rw [pbI, getD_set (by rw [pbI_length]; omega)]
    split
    · next h => subst h; rfl
    · exact pbI_getD b t o n x (by omega) (by omega)
theorem ext_getD {l r : List (BitVec 8)} (h : l.length = r.length) (h2 : ∀ x, x < l.length → l.getD x 0 = r.getD x 0) : l = r := by
  refine List.ext_getElem h fun i hi hj => ?_
  have := h2 i hi
  rwa [List.getD_eq_getElem?_getD, List.getD_eq_getElem?_getD, List.getElem?_eq_getElem hi, List.getElem?_eq_getElem hj] at this
theorem pbI_xor (b t : List (BitVec 8)) (o : Nat) (h : o + 16 ≤ b.length) : pbI b t o 16 = xorF (chunk b o) t := by
  have hl := chunk_length h
  refine ext_getD (by rw [pbI_length, xorF_length, hl]) fun x hx => ?_
  rw [pbI_length] at hx
  rw [pbI_getD b t o 16 x (Nat.le_refl _) hx, xorF, xorI_getD _ _ 16 x (by omega) hx, chunk_getD _ _ _ hx]

def nI (s : BitVec 64) : Nat → List (BitVec 8)
  | 0 => List.replicate 16 0
  | n + 1 => (nI s n).set n ((s >>> (8 * n)).setWidth 8)
theorem nI_length (s : BitVec 64) : ∀ n, (nI s n).length = 16
  | 0 => rfl
  | n + 1 => by rw [nI, List.length_set, nI_length s n]
theorem nI_fir (s : BitVec 64) : ∀ n, firI s n = (nI s n, s >>> (8 * n))
  | 0 => by
    rw [show s >>> (8 * 0) = s from by simp]
    rfl
  | n + 1 => by
    rw [firI, nI_fir s n, nI]
    show (_, s >>> (8 * n) >>> 8) = _
    rw [← BitVec.shiftRight_add]
    rfl

abbrev t512 : Ty := .arr 512 .cell
theorem xblock_ex (a b bs : List (BitVec 8)) (s : BitVec 64) (ha : a.length = 32) (hb : b.length = 32) (hl : bs.length = 512) :
    ∃ (k1 k2 : List (List (BitVec 8))) (E : List (BitVec 8)), Rows 15 16 k1 ∧ Rows 15 16 k2 ∧ E.length = 512 ∧ 
    (∀ i, i < 2 → ∀ x, x < 16 → E.getD (16 * i + x) 0 = (encF k1 (pbI bs (twN (encI k2 (nI s 8) 14) i) (16 * i) 16)).getD x 0 ^^^ (twN (encI k2 (nI s 8) 14) i).getD x 0) ∧
    AC Tryd.prog 25 [.u8s a] 0 [] ⟨.ptr 0 [], [], [(tC, keysD k1)]⟩ ∧
    AC Tryd.prog 25 [.u8s b] 0 [] ⟨.ptr 0 [], [], [(tC, keysD k2)]⟩ ∧
    AC Tryd.prog 12 [.u8s a, .u8s b] 0 [] ⟨.ptr 0 [], [], [(tX, .node [.ptr 1 [], .ptr 2 []]), (tC, keysD k1), (tC, keysD k2)]⟩ ∧
    AC Tryd.prog 13 [.ptr 0 [], .u64 s, .slice 3 [] 0 (512 * 1) (some 512)] 4 (xMem k1 k2 t512 bs) ⟨.tup [.slice 4 [] 0 (512 * 1) none, .i64 0], [], [(.row .cell, .u8s E)]⟩ := by
  have h1 := rows_sched a ha
  have h2 := rows_sched b hb
  have hn := xnew_ac a b ha hb
  have n1 := new_ac a ha
  have n2 := new_ac b hb
  generalize schedF a = k1 at h1 hn n1
  generalize schedF b = k2 at h2 hn n2
  have hE := seal_length k1 k2 bs 0 1 s (by omega)
  have hk : ∀ p : List (BitVec 8), p.length = 16 → (encF k1 p).length = 16 := fun p hp => encI_length k1 p hp 14
  have hch := catB_chunk (B := blkK (encF k1) k2 bs 0 s) (n := 32) (fun k hk' => blkF_length hk (chunk_length (by omega)))
  have hcat := ovI_cat (encF k1) k2 bs 0 s 1
  refine ⟨k1, k2, _, h1, h2, hE, ?_, n1, n2, hn, seal_ac t512 (.inr ⟨512, rfl⟩) k1 k2 h1 h2 bs 0 1 (some 512) s (by omega) (by omega) (by omega)⟩
  intro i hi x hx
  have e := hch i (by omega)
  rw [show (32 : Nat) = 32 * 1 from rfl, ← hcat] at e
  rw [← chunk_getD _ _ _ hx, e]
  have et : twK k2 s i = twN (encI k2 (nI s 8) 14) i := by
    unfold twK
    rw [show i / 32 = 0 by omega, show i % 32 = i by omega, show s + BitVec.ofNat 64 0 = s from BitVec.add_zero _]
    unfold firF
    rw [nI_fir]
  unfold blkK blkF
  rw [et, pbI_xor _ _ _ (by omega), Nat.zero_add]
  have hp : (xorF (chunk bs (16 * i)) (twN (encI k2 (nI s 8) 14) i)).length = 16 := by rw [xorF_length, chunk_length (by omega)]
  generalize xorF (chunk bs (16 * i)) (twN (encI k2 (nI s 8) 14) i) = p at hp ⊢
  exact xorI_getD _ _ 16 x (by rw [hk p hp]; exact Nat.le_refl _) hx

end Go.Proofs.YtljkjdhkofbgmaaDoor.Av
