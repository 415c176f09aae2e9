import Derived.Test.YtljkjdhkofbgmaaDoorRefD
namespace Go.Proofs.YtljkjdhkofbgmaaDoor.Av
open Go
set_option linter.all false
set_option maxRecDepth 3000

theorem rusub_eq (t : List (BitVec 8)) (ht : t.length = 16) : rusubF unboxL t = usubI t 16 := by
  refine ext16 (by rw [rusubF_length, ht]) (usubI_length t 16) fun i hi => ?_
  obtain ⟨j, hj, rfl⟩ := sg_onto i hi
  have hx : ∀ i, i < 16 → rusubX i = sg i := sg_form
  have h := setsI_at (ix := rusubX) (rusubV unboxL t) t 16 (fun i hi => by rw [hx i hi, ht]; exact sg_lt i) (fun i hi j hj h => by rw [hx i hi, hx j hj] at h; exact sg_inj i hi j hj h) 16 (Nat.le_refl _) j hj
  rw [hx j hj] at h
  rw [usubI_at t 16 (Nat.le_refl _) j hj]
  refine h.trans ?_
  unfold rusubV usboxF
  rw [show 4 * (j / 4) + j % 4 = j by omega]

def riF (f : BitVec 8 → BitVec 8) (a b c d : BitVec 8) : BitVec 8 :=
  (0 ^^^ f a ^^^ f (f a) ^^^ f (f (f a))) ^^^ (0 ^^^ b ^^^ f b ^^^ f (f (f b))) ^^^ (0 ^^^ c ^^^ f (f c) ^^^ f (f (f c))) ^^^ (0 ^^^ d ^^^ f (f (f d)))
theorem runmixF_list (a0 a1 a2 a3 a4 a5 a6 a7 a8 a9 a10 a11 a12 a13 a14 a15 : BitVec 8) : runmixF [a0, a1, a2, a3, a4, a5, a6, a7, a8, a9, a10, a11, a12, a13, a14, a15] =
    [riF shiftF a0 a1 a2 a3, riF shiftF a1 a2 a3 a0, riF shiftF a2 a3 a0 a1, riF shiftF a3 a0 a1 a2] ++ [riF shiftF a4 a5 a6 a7, riF shiftF a5 a6 a7 a4, riF shiftF a6 a7 a4 a5, riF shiftF a7 a4 a5 a6] ++
    [riF shiftF a8 a9 a10 a11, riF shiftF a9 a10 a11 a8, riF shiftF a10 a11 a8 a9, riF shiftF a11 a8 a9 a10] ++ [riF shiftF a12 a13 a14 a15, riF shiftF a13 a14 a15 a12, riF shiftF a14 a15 a12 a13, riF shiftF a15 a12 a13 a14] := by
  kernel_rfl

theorem z_xor (x : BitVec 8) : 0 ^^^ x = x := BitVec.zero_xor
theorem ri_line (f : BitVec 8 → BitVec 8) (hf : ∀ x y, f (x ^^^ y) = f x ^^^ f y) (a b c d p0 p1 p2 p3 : BitVec 8) (h0 : p0 = a ^^^ f (f (a ^^^ c))) (h1 : p1 = b ^^^ f (f (b ^^^ d))) (h2 : p2 = c ^^^ f (f (a ^^^ c))) (h3 : p3 = d ^^^ f (f (b ^^^ d))) :
    riF f a b c d = p0 ^^^ (p0 ^^^ p1 ^^^ p2 ^^^ p3 ^^^ f (p0 ^^^ p1)) := by
  have e2 : p0 ^^^ (p0 ^^^ p1 ^^^ p2 ^^^ p3 ^^^ f (p0 ^^^ p1)) = p1 ^^^ (p2 ^^^ (p3 ^^^ (f p0 ^^^ f p1))) := by
    rw [hf]; simp only [BitVec.xor_assoc, xor_cancel]
  have e3 : p1 ^^^ p3 = b ^^^ d := by
    rw [h1, h3]; simp only [BitVec.xor_assoc, BitVec.xor_comm, xor_lc, xor_cancel, BitVec.xor_self, BitVec.xor_zero]
  have e4 : p1 ^^^ (p2 ^^^ (p3 ^^^ (f p0 ^^^ f p1))) = (b ^^^ d) ^^^ (p2 ^^^ (f p0 ^^^ f p1)) := by
    rw [← e3]; simp only [BitVec.xor_assoc, BitVec.xor_comm, xor_lc]
  rw [e2, e4, h0, h1, h2]
  unfold riF
  simp only [hf, z_xor]
  simp only [BitVec.xor_assoc, BitVec.xor_comm, xor_lc, xor_cancel]

theorem ri_col (a b c d : BitVec 8) : [riF shiftF a b c d, riF shiftF b c d a, riF shiftF c d a b, riF shiftF d a b c] = ap4 (mcF shiftF) (pcF shiftF a b c d) := by
  show _ = mcF shiftF _ _ _ _
  generalize h0 : a ^^^ shiftF (shiftF (a ^^^ c)) = p0
  generalize h1 : b ^^^ shiftF (shiftF (b ^^^ d)) = p1
  generalize h2 : c ^^^ shiftF (shiftF (a ^^^ c)) = p2
  generalize h3 : d ^^^ shiftF (shiftF (b ^^^ d)) = p3
  have c1 : c ^^^ a = a ^^^ c := BitVec.xor_comm c a
  have c2 : d ^^^ b = b ^^^ d := BitVec.xor_comm d b
  have r1 : p0 ^^^ p1 ^^^ p2 ^^^ p3 = p1 ^^^ p2 ^^^ p3 ^^^ p0 := by simp only [BitVec.xor_assoc, BitVec.xor_comm, xor_lc]
  have r2 : p0 ^^^ p1 ^^^ p2 ^^^ p3 = p2 ^^^ p3 ^^^ p0 ^^^ p1 := by simp only [BitVec.xor_assoc, BitVec.xor_comm, xor_lc]
  have r3 : p0 ^^^ p1 ^^^ p2 ^^^ p3 = p3 ^^^ p0 ^^^ p1 ^^^ p2 := by simp only [BitVec.xor_assoc, BitVec.xor_comm, xor_lc]
  refine list4 ?_ ?_ ?_ ?_
  · exact ri_line shiftF shiftF_xor a b c d p0 p1 p2 p3 h0.symm h1.symm h2.symm h3.symm
  · rw [r1]
    exact ri_line shiftF shiftF_xor b c d a p1 p2 p3 p0 h1.symm (by rw [c1]; exact h2.symm) h3.symm (by rw [c1]; exact h0.symm)
  · rw [r2]
    exact ri_line shiftF shiftF_xor c d a b p2 p3 p0 p1 (by rw [c1]; exact h2.symm) (by rw [c2]; exact h3.symm) (by rw [c1]; exact h0.symm) (by rw [c2]; exact h1.symm)
  · rw [r3]
    exact ri_line shiftF shiftF_xor d a b c p3 p0 p1 p2 (by rw [c2]; exact h3.symm) h0.symm (by rw [c2]; exact h1.symm) h2.symm

theorem runmix_eq (s : List (BitVec 8)) (hs : s.length = 16) : runmixF s = unmixF s := by
  obtain ⟨a0, a1, a2, a3, a4, a5, a6, a7, a8, a9, a10, a11, a12, a13, a14, a15, rfl⟩ := list16 s hs
  unfold unmixF
  rw [preI_list, runmixF_list]
  simp only [pcF, List.cons_append, List.nil_append]
  rw [mixF_list]
  exact four (ri_col a0 a1 a2 a3) (ri_col a4 a5 a6 a7) (ri_col a8 a9 a10 a11) (ri_col a12 a13 a14 a15)

theorem rdecI_eq (ks : List (List (BitVec 8))) (b : List (BitVec 8)) (hb : b.length = 16) : ∀ k, rdecI unboxL ks b k = decI ks b k
  | 0 => rfl
  | k + 1 => by
    have hl := decI_length ks b hb k
    have hx : (xorF (decI ks b k) (ks.getD (14 - k) [])).length = 16 := by rw [xorF_length, hl]
    have e : rdecT ks k (decI ks b k) = decT ks k (decI ks b k) := by
      unfold rdecT decT
      rw [runmix_eq _ hx]
    rw [rdecI, decI, rdecI_eq ks b hb k, e]
    exact rusub_eq _ (by rw [decT_length, hl])
theorem rdec_eq (ks : List (List (BitVec 8))) (b : List (BitVec 8)) (hb : b.length = 16) : rdecF unboxL ks b = decF ks b := by
  unfold rdecF decF
  rw [rdecI_eq ks b hb]
end Go.Proofs.YtljkjdhkofbgmaaDoor.Av
