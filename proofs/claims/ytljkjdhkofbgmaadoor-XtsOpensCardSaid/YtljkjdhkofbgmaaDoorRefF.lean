import Derived.Test.YtljkjdhkofbgmaaDoorRefE
import Derived.Test.YtljkjdhkofbgmaaDoorBackLaw
namespace Go.Proofs.YtljkjdhkofbgmaaDoor.Av
open Go
set_option linter.all false
set_option maxRecDepth 3000

theorem setsI_at {ix : Nat → Nat} (v : Nat → BitVec 8) (s : List (BitVec 8)) (N : Nat) (hix : ∀ i, i < N → ix i < s.length) (hinj : ∀ i, i < N → ∀ j, j < N → ix i = ix j → i = j) : ∀ n, n ≤ N → ∀ i, i < n → (setsI ix v s n).getD (ix i) 0 = v i
  | 0, _, i, hi => by omega
  | n + 1, hn, i, hi => by
    rw [setsI, getD_set (by rw [setsI_length]; exact hix n (by omega))]
    by_cases h : i = n
    · subst h; rw [if_pos rfl]
    · rw [if_neg (fun e => h (hinj i (by omega) n (by omega) e))]
      exact setsI_at v s N hix hinj n (by omega) i (by omega)

theorem sg_form : ∀ i, i < 16 → 4 * ((i / 4 + i % 4) % 4) + i % 4 = sg i := by decide

theorem rsub_eq (s : List (BitVec 8)) : rsubF s = subI s 16 := by
  refine ext16 (rsubF_length s) (subI_length s 16) fun i hi => ?_
  have h := setsI_at (ix := id) (rsubV s) (List.replicate 16 0) 16 (fun i hi => by rw [List.length_replicate]; exact hi) (fun i _ j _ h => h) 16 (Nat.le_refl _) i hi
  rw [subI_at s 16 (Nat.le_refl _) i hi, ← sg_form i hi]
  exact h

def rcF (f : BitVec 8 → BitVec 8) (a b c d : BitVec 8) : List (BitVec 8) :=
  [f a ^^^ f b ^^^ b ^^^ c ^^^ d, f b ^^^ f c ^^^ c ^^^ d ^^^ a, f c ^^^ f d ^^^ d ^^^ a ^^^ b, f d ^^^ f a ^^^ a ^^^ b ^^^ c]
theorem rmixF_list (a0 a1 a2 a3 a4 a5 a6 a7 a8 a9 a10 a11 a12 a13 a14 a15 : BitVec 8) : rmixF [a0, a1, a2, a3, a4, a5, a6, a7, a8, a9, a10, a11, a12, a13, a14, a15] =
    rcF shiftF a0 a1 a2 a3 ++ rcF shiftF a4 a5 a6 a7 ++ rcF shiftF a8 a9 a10 a11 ++ rcF shiftF a12 a13 a14 a15 := by
  kernel_rfl
theorem rc_mc (f : BitVec 8 → BitVec 8) (hf : ∀ x y, f (x ^^^ y) = f x ^^^ f y) (a b c d : BitVec 8) : rcF f a b c d = mcF f a b c d := by
  refine list4 ?_ ?_ ?_ ?_ <;> rw [hf] <;> simp only [BitVec.xor_assoc, BitVec.xor_comm, xor_lc, xor_cancel]
theorem rmix_eq (s : List (BitVec 8)) (hs : s.length = 16) : rmixF s = mixF s := by
  obtain ⟨a0, a1, a2, a3, a4, a5, a6, a7, a8, a9, a10, a11, a12, a13, a14, a15, rfl⟩ := list16 s hs
  rw [mixF_list, rmixF_list]
  exact four (rc_mc shiftF shiftF_xor _ _ _ _) (rc_mc shiftF shiftF_xor _ _ _ _) (rc_mc shiftF shiftF_xor _ _ _ _) (rc_mc shiftF shiftF_xor _ _ _ _)
theorem renc_eq (ks : List (List (BitVec 8))) (b : List (BitVec 8)) : ∀ n, rencI ks b n = encI ks b n
  | 0 => rfl
  | n + 1 => by
    rw [rencI, encI, renc_eq ks b n, rsub_eq, rmix_eq _ (subI_length _ _)]
end Go.Proofs.YtljkjdhkofbgmaaDoor.Av
