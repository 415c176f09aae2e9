import Derived.Test.YtljkjdhkofbgmaaDoorWrap2
import Derived.Test.YtljkjdhkofbgmaaDoorBackLaw
namespace Go.Proofs.YtljkjdhkofbgmaaDoor.Av
open Go
set_option linter.all false
set_option maxRecDepth 3000

/-! what a mask does -/
theorem xrI_at (l : List (BitVec 8)) (o : Nat) (e : List (BitVec 8)) : ∀ n, o + n ≤ l.length → ∀ j, (xrI l o e n).getD j 0 = if o ≤ j ∧ j < o + n then l.getD j 0 ^^^ e.getD (j - o) 0 else l.getD j 0
  | 0, _, j => by rw [if_neg (by omega)]; rfl
  | n + 1, h, j => by
    rw [xrI, getD_set (by rw [xrI_length]; omega), xrI_at l o e n (by omega), xrI_at l o e n (by omega)]
    rw [if_neg (show ¬ (o ≤ o + n ∧ o + n < o + n) by omega)]
    by_cases hj : j = o + n
    · subst hj; rw [if_pos rfl, if_pos (by omega), show o + n - o = n by omega]
    · rw [if_neg hj]
      by_cases h2 : o ≤ j ∧ j < o + n
      · rw [if_pos h2, if_pos (by omega)]
      · rw [if_neg h2, if_neg (by omega)]
def mkB (b : List (BitVec 8)) (j : Nat) : BitVec 8 := if j < 16 then (encI (schedF (labF b wrapS)) (blkN 0) 14).getD j 0 else (encI (schedF (labF b wrapS)) (blkN 1) 14).getD (j - 16) 0
theorem maskF_at (b k : List (BitVec 8)) (hk : k.length = 32) (j : Nat) (hj : j < 32) : (maskF b k).getD j 0 = k.getD j 0 ^^^ mkB b j := by
  rw [maskF, xrI_at _ _ _ 16 (by rw [xrI_length]; omega), xrI_at _ _ _ 16 (by omega)]
  unfold mkB
  by_cases h : j < 16
  · rw [if_neg (by omega), if_pos (by omega), if_pos h, Nat.sub_zero]
  · rw [if_pos (by omega), if_neg (by omega), if_neg h]
theorem xor_xor_r (a b : BitVec 8) : a ^^^ b ^^^ b = a := by rw [BitVec.xor_assoc, BitVec.xor_self, BitVec.xor_zero]
theorem mask_mask (b k : List (BitVec 8)) (hk : k.length = 32) : maskF b (maskF b k) = k := by
  have h1 := maskF_length b k
  refine ext_getD (by rw [maskF_length, h1]) fun i hi => ?_
  rw [maskF_length, h1, hk] at hi
  rw [maskF_at _ _ (h1.trans hk) i hi, maskF_at _ _ hk i hi, xor_xor_r]
theorem mask_inj {b k l : List (BitVec 8)} (hk : k.length = 32) (hl : l.length = 32) : maskF b k = maskF b l ↔ k = l :=
  ⟨fun h => by rw [← mask_mask b k hk, h, mask_mask b l hl], fun h => by rw [h]⟩
/-- no mask is nothing: AES leads back -/
theorem mask_ne (b k : List (BitVec 8)) (hk : k.length = 32) : maskF b k ≠ k := by
  intro h
  have key : ∀ j, j < 32 → mkB b j = 0 := fun j hj => by
    have h2 := maskF_at b k hk j hj
    rw [h] at h2
    rw [← xor_cancel (k.getD j 0) (mkB b j), ← h2, BitVec.xor_self]; rfl
  have l0 := encI_length (schedF (labF b wrapS)) (blkN 0) rfl 14
  have l1 := encI_length (schedF (labF b wrapS)) (blkN 1) rfl 14
  have e : encI (schedF (labF b wrapS)) (blkN 0) 14 = encI (schedF (labF b wrapS)) (blkN 1) 14 := ext16 l0 l1 fun i hi => by
    have h0 := key i (by omega)
    have h1 := key (16 + i) (by omega)
    unfold mkB at h0 h1
    rw [if_pos hi] at h0
    rw [if_neg (by omega), show 16 + i - 16 = i by omega] at h1
    rw [h0, h1]
  have := (dec_enc (schedF (labF b wrapS)) (blkN 0) rfl).symm.trans ((congrArg _ e).trans (dec_enc (schedF (labF b wrapS)) (blkN 1) rfl))
  exact absurd this (by decide)
end Go.Proofs.YtljkjdhkofbgmaaDoor.Av
