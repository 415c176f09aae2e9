import Derived.Test.YtodkhgofmgaafaaDoorM5
import Derived.Test.YtodkhgofmgaafaaDoorM4
namespace Go.Proofs.YtodkhgofmgaafaaDoor.Av
open Go
set_option linter.all false
set_option maxRecDepth 3000

/-! what is encrypted is decrypted to what it was, with no program in sight -/

theorem box_back (b : BitVec 8) : usboxF (sboxF b) = b ∧ sboxF (usboxF b) = b :=
  byte_nat (p := fun b => usboxF (sboxF b) = b ∧ sboxF (usboxF b) = b) (by decide +kernel) b

theorem high_bit (a : BitVec 8) : a &&& 128 = 0 ∨ a &&& 128 = 128 := byte_nat (p := fun a => a &&& 128 = 0 ∨ a &&& 128 = 128) (by decide +kernel) a

theorem xor_lc (a b c : BitVec 8) : a ^^^ (b ^^^ c) = b ^^^ (a ^^^ c) := by rw [← BitVec.xor_assoc, BitVec.xor_comm a b, BitVec.xor_assoc]
theorem xor_cancel (a b : BitVec 8) : a ^^^ (a ^^^ b) = b := by rw [← BitVec.xor_assoc, BitVec.xor_self, BitVec.zero_xor]
theorem and_xor (a b c : BitVec 8) : (a ^^^ b) &&& c = (a &&& c) ^^^ (b &&& c) := by
  apply BitVec.eq_of_getLsbD_eq
  intro i hi
  simp only [BitVec.getLsbD_and, BitVec.getLsbD_xor]
  cases a.getLsbD i <;> cases b.getLsbD i <;> cases c.getLsbD i <;> rfl
theorem shiftF_xor (a b : BitVec 8) : shiftF (a ^^^ b) = shiftF a ^^^ shiftF b := by
  unfold shiftF
  have e : (a ^^^ b) &&& 128 = (a &&& 128) ^^^ (b &&& 128) := and_xor a b 128
  rw [e, BitVec.shiftLeft_xor_distrib]
  rcases high_bit a with ha | ha <;> rcases high_bit b with hb | hb <;> rw [ha, hb]
  · simp
  · simp [BitVec.xor_assoc]
  · simp only [BitVec.xor_assoc, BitVec.xor_comm, xor_lc, if_true]; simp [BitVec.xor_assoc, BitVec.xor_comm, xor_lc]
  · simp [BitVec.xor_assoc, BitVec.xor_comm, xor_lc, xor_cancel]

theorem list16 {α : Type} (l : List α) (h : l.length = 16) : ∃ a0 a1 a2 a3 a4 a5 a6 a7 a8 a9 a10 a11 a12 a13 a14 a15, l = [a0, a1, a2, a3, a4, a5, a6, a7, a8, a9, a10, a11, a12, a13, a14, a15] := by
  match l, h with
  | [a0, a1, a2, a3, a4, a5, a6, a7, a8, a9, a10, a11, a12, a13, a14, a15], _ => exact ⟨a0, a1, a2, a3, a4, a5, a6, a7, a8, a9, a10, a11, a12, a13, a14, a15, rfl⟩

def mcF (f : BitVec 8 → BitVec 8) (a b c d : BitVec 8) : List (BitVec 8) :=
  [a ^^^ (a ^^^ b ^^^ c ^^^ d ^^^ f (a ^^^ b)), b ^^^ (a ^^^ b ^^^ c ^^^ d ^^^ f (b ^^^ c)), c ^^^ (a ^^^ b ^^^ c ^^^ d ^^^ f (c ^^^ d)), d ^^^ (a ^^^ b ^^^ c ^^^ d ^^^ f (d ^^^ a))]
def pcF (f : BitVec 8 → BitVec 8) (a b c d : BitVec 8) : List (BitVec 8) :=
  [a ^^^ f (f (a ^^^ c)), b ^^^ f (f (b ^^^ d)), c ^^^ f (f (a ^^^ c)), d ^^^ f (f (b ^^^ d))]

theorem mixF_list (a0 a1 a2 a3 a4 a5 a6 a7 a8 a9 a10 a11 a12 a13 a14 a15 : BitVec 8) : mixF [a0, a1, a2, a3, a4, a5, a6, a7, a8, a9, a10, a11, a12, a13, a14, a15] =
    mcF shiftF a0 a1 a2 a3 ++ mcF shiftF a4 a5 a6 a7 ++ mcF shiftF a8 a9 a10 a11 ++ mcF shiftF a12 a13 a14 a15 := by
  kernel_rfl
theorem preI_list (a0 a1 a2 a3 a4 a5 a6 a7 a8 a9 a10 a11 a12 a13 a14 a15 : BitVec 8) : preI [a0, a1, a2, a3, a4, a5, a6, a7, a8, a9, a10, a11, a12, a13, a14, a15] 4 =
    pcF shiftF a0 a1 a2 a3 ++ pcF shiftF a4 a5 a6 a7 ++ pcF shiftF a8 a9 a10 a11 ++ pcF shiftF a12 a13 a14 a15 := by
  kernel_rfl
def ap4 (g : BitVec 8 → BitVec 8 → BitVec 8 → BitVec 8 → List (BitVec 8)) : List (BitVec 8) → List (BitVec 8)
  | [a, b, c, d] => g a b c d
  | _ => []

theorem list4 {a b c d a' b' c' d' : BitVec 8} (h0 : a = a') (h1 : b = b') (h2 : c = c') (h3 : d = d') : [a, b, c, d] = [a', b', c', d'] := by rw [h0, h1, h2, h3]
/-- one line of mixed twice -/
theorem mc_line (f : BitVec 8 → BitVec 8) (hf : ∀ x y, f (x ^^^ y) = f x ^^^ f y) (a b c d : BitVec 8) (m0 m1 m2 m3 : BitVec 8) (h0 : m0 = b ^^^ (c ^^^ (d ^^^ (f a ^^^ f b)))) (h1 : m1 = a ^^^ (c ^^^ (d ^^^ (f b ^^^ f c))))
    (h2 : m2 = a ^^^ (b ^^^ (d ^^^ (f c ^^^ f d)))) (h3 : m3 = a ^^^ (b ^^^ (c ^^^ (f d ^^^ f a)))) : m0 ^^^ (m0 ^^^ m1 ^^^ m2 ^^^ m3 ^^^ f (m0 ^^^ m1)) = a ^^^ f (f (a ^^^ c)) := by
  have e1 : m0 ^^^ m1 = a ^^^ (b ^^^ (f a ^^^ f c)) := by
    rw [h0, h1]
    simp only [BitVec.xor_assoc, BitVec.xor_comm, xor_lc, xor_cancel]
  have e2 : m0 ^^^ (m0 ^^^ m1 ^^^ m2 ^^^ m3 ^^^ f (m0 ^^^ m1)) = m1 ^^^ (m2 ^^^ (m3 ^^^ f (m0 ^^^ m1))) := by
    simp only [BitVec.xor_assoc, xor_cancel]
  rw [e2, e1, hf a, hf b, hf (f a), hf a c, hf (f a), h1, h2, h3]
  simp only [BitVec.xor_assoc, BitVec.xor_comm, xor_lc, xor_cancel, BitVec.xor_self, BitVec.xor_zero]
theorem mc_forms (f : BitVec 8 → BitVec 8) (hf : ∀ x y, f (x ^^^ y) = f x ^^^ f y) (a b c d : BitVec 8) : a ^^^ (a ^^^ b ^^^ c ^^^ d ^^^ f (a ^^^ b)) = b ^^^ (c ^^^ (d ^^^ (f a ^^^ f b))) := by
  rw [hf]; simp only [BitVec.xor_assoc, xor_cancel]
theorem mc_mc (f : BitVec 8 → BitVec 8) (hf : ∀ x y, f (x ^^^ y) = f x ^^^ f y) (a b c d : BitVec 8) : ap4 (mcF f) (mcF f a b c d) = pcF f a b c d := by
  have l0 : a ^^^ (a ^^^ b ^^^ c ^^^ d ^^^ f (a ^^^ b)) = b ^^^ (c ^^^ (d ^^^ (f a ^^^ f b))) := by
    rw [hf]; simp only [BitVec.xor_assoc, BitVec.xor_comm, xor_lc, xor_cancel]
  have l1 : b ^^^ (a ^^^ b ^^^ c ^^^ d ^^^ f (b ^^^ c)) = a ^^^ (c ^^^ (d ^^^ (f b ^^^ f c))) := by
    rw [hf]; simp only [BitVec.xor_assoc, BitVec.xor_comm, xor_lc, xor_cancel]
  have l2 : c ^^^ (a ^^^ b ^^^ c ^^^ d ^^^ f (c ^^^ d)) = a ^^^ (b ^^^ (d ^^^ (f c ^^^ f d))) := by
    rw [hf]; simp only [BitVec.xor_assoc, BitVec.xor_comm, xor_lc, xor_cancel]
  have l3 : d ^^^ (a ^^^ b ^^^ c ^^^ d ^^^ f (d ^^^ a)) = a ^^^ (b ^^^ (c ^^^ (f d ^^^ f a))) := by
    rw [hf]; simp only [BitVec.xor_assoc, BitVec.xor_comm, xor_lc, xor_cancel]
  show mcF f _ _ _ _ = _
  revert l0 l1 l2 l3
  generalize a ^^^ (a ^^^ b ^^^ c ^^^ d ^^^ f (a ^^^ b)) = m0
  generalize b ^^^ (a ^^^ b ^^^ c ^^^ d ^^^ f (b ^^^ c)) = m1
  generalize c ^^^ (a ^^^ b ^^^ c ^^^ d ^^^ f (c ^^^ d)) = m2
  generalize d ^^^ (a ^^^ b ^^^ c ^^^ d ^^^ f (d ^^^ a)) = m3
  intro l0 l1 l2 l3
  have ac : ∀ x y z w : BitVec 8, x ^^^ (y ^^^ (z ^^^ w)) = y ^^^ (z ^^^ (x ^^^ w)) := fun x y z w => by simp only [BitVec.xor_comm, xor_lc]
  have r1 : m0 ^^^ m1 ^^^ m2 ^^^ m3 = m1 ^^^ m2 ^^^ m3 ^^^ m0 := by simp only [BitVec.xor_assoc, BitVec.xor_comm, xor_lc]
  have r2 : m0 ^^^ m1 ^^^ m2 ^^^ m3 = m2 ^^^ m3 ^^^ m0 ^^^ m1 := by simp only [BitVec.xor_assoc, BitVec.xor_comm, xor_lc]
  have r3 : m0 ^^^ m1 ^^^ m2 ^^^ m3 = m3 ^^^ m0 ^^^ m1 ^^^ m2 := by simp only [BitVec.xor_assoc, BitVec.xor_comm, xor_lc]
  refine list4 ?_ ?_ ?_ ?_
  · exact mc_line f hf a b c d m0 m1 m2 m3 l0 l1 l2 l3
  · rw [r1]
    exact mc_line f hf b c d a m1 m2 m3 m0 (by rw [l1]; simp only [BitVec.xor_comm, xor_lc]) (by rw [l2]; simp only [BitVec.xor_comm, xor_lc]) (by rw [l3]; simp only [BitVec.xor_comm, xor_lc]) (by rw [l0])
  · rw [r2, BitVec.xor_comm a c]
    exact mc_line f hf c d a b m2 m3 m0 m1 (by rw [l2]; simp only [BitVec.xor_comm, xor_lc]) (by rw [l3]; simp only [BitVec.xor_comm, xor_lc]) (by rw [l0]; simp only [BitVec.xor_comm, xor_lc]) (by rw [l1]; simp only [BitVec.xor_comm, xor_lc])
  · rw [r3, BitVec.xor_comm b d]
    exact mc_line f hf d a b c m3 m0 m1 m2 (by rw [l3]) (by rw [l0]; simp only [BitVec.xor_comm, xor_lc]) (by rw [l1]; simp only [BitVec.xor_comm, xor_lc]) (by rw [l2]; simp only [BitVec.xor_comm, xor_lc])

theorem pc_pc (f : BitVec 8 → BitVec 8) (hf : ∀ x y, f (x ^^^ y) = f x ^^^ f y) (a b c d : BitVec 8) : ap4 (pcF f) (pcF f a b c d) = [a, b, c, d] := by
  have e : ∀ x y z : BitVec 8, (x ^^^ z) ^^^ (y ^^^ z) = x ^^^ y := fun x y z => by simp only [BitVec.xor_assoc, BitVec.xor_comm, xor_lc, BitVec.xor_self, BitVec.xor_zero]
  have r : ∀ x y : BitVec 8, (x ^^^ y) ^^^ y = x := fun x y => by simp only [BitVec.xor_assoc, BitVec.xor_self, BitVec.xor_zero]
  show pcF f _ _ _ _ = _
  unfold pcF
  rw [e, e, r, r, r, r]

theorem ap4_four {g h : BitVec 8 → BitVec 8 → BitVec 8 → BitVec 8 → List (BitVec 8)} {l : List (BitVec 8)} (hl : l.length = 4) (e : ∀ a b c d, g a b c d = h a b c d) : ap4 g l = ap4 h l := by
  match l, hl with
  | [a, b, c, d], _ => exact e a b c d

theorem col_back (f : BitVec 8 → BitVec 8) (hf : ∀ x y, f (x ^^^ y) = f x ^^^ f y) (a b c d : BitVec 8) : ap4 (mcF f) (ap4 (pcF f) (mcF f a b c d)) = [a, b, c, d] := by
  have h1 : ap4 (pcF f) (mcF f a b c d) = ap4 (fun a b c d => ap4 (mcF f) (mcF f a b c d)) (mcF f a b c d) := ap4_four rfl (fun a b c d => (mc_mc f hf a b c d).symm)
  have h2 : ap4 (fun a b c d => ap4 (mcF f) (mcF f a b c d)) (mcF f a b c d) = ap4 (mcF f) (pcF f a b c d) := congrArg (ap4 (mcF f)) (mc_mc f hf a b c d)
  rw [h1, h2]
  have h3 : ap4 (mcF f) (ap4 (mcF f) (pcF f a b c d)) = ap4 (pcF f) (pcF f a b c d) := mc_mc f hf _ _ _ _
  rw [h3, pc_pc f hf]
theorem col_forth (f : BitVec 8 → BitVec 8) (hf : ∀ x y, f (x ^^^ y) = f x ^^^ f y) (a b c d : BitVec 8) : ap4 (mcF f) (ap4 (mcF f) (pcF f a b c d)) = [a, b, c, d] := by
  have h3 : ap4 (mcF f) (ap4 (mcF f) (pcF f a b c d)) = ap4 (pcF f) (pcF f a b c d) := mc_mc f hf _ _ _ _
  rw [h3, pc_pc f hf]

theorem four {l0 l1 l2 l3 r0 r1 r2 r3 : List (BitVec 8)} (h0 : l0 = r0) (h1 : l1 = r1) (h2 : l2 = r2) (h3 : l3 = r3) : l0 ++ l1 ++ l2 ++ l3 = r0 ++ r1 ++ r2 ++ r3 := by rw [h0, h1, h2, h3]

theorem unmix_mix (s : List (BitVec 8)) (hs : s.length = 16) : unmixF (mixF s) = s := by
  obtain ⟨a0, a1, a2, a3, a4, a5, a6, a7, a8, a9, a10, a11, a12, a13, a14, a15, rfl⟩ := list16 s hs
  rw [mixF_list]
  simp only [mcF, List.cons_append, List.nil_append]
  unfold unmixF
  rw [preI_list]
  simp only [pcF, List.cons_append, List.nil_append]
  rw [mixF_list]
  exact four (col_back shiftF shiftF_xor a0 a1 a2 a3) (col_back shiftF shiftF_xor a4 a5 a6 a7) (col_back shiftF shiftF_xor a8 a9 a10 a11) (col_back shiftF shiftF_xor a12 a13 a14 a15)

theorem mix_unmix (s : List (BitVec 8)) (hs : s.length = 16) : mixF (unmixF s) = s := by
  obtain ⟨a0, a1, a2, a3, a4, a5, a6, a7, a8, a9, a10, a11, a12, a13, a14, a15, rfl⟩ := list16 s hs
  unfold unmixF
  rw [preI_list]
  simp only [pcF, List.cons_append, List.nil_append]
  rw [mixF_list]
  simp only [mcF, List.cons_append, List.nil_append]
  rw [mixF_list]
  exact four (col_forth shiftF shiftF_xor a0 a1 a2 a3) (col_forth shiftF shiftF_xor a4 a5 a6 a7) (col_forth shiftF shiftF_xor a8 a9 a10 a11) (col_forth shiftF shiftF_xor a12 a13 a14 a15)

theorem ext16 {l r : List (BitVec 8)} (h1 : l.length = 16) (h2 : r.length = 16) (hi : ∀ i, i < 16 → l.getD i 0 = r.getD i 0) : l = r := by
  refine List.ext_getElem (h1.trans h2.symm) fun i q1 q2 => ?_
  have := hi i (by omega)
  rwa [List.getD_eq_getElem?_getD, List.getD_eq_getElem?_getD, List.getElem?_eq_getElem q1, List.getElem?_eq_getElem q2] at this

theorem xorI_at (s k : List (BitVec 8)) (hs : s.length = 16) : ∀ n, n ≤ 16 → ∀ i, (xorI s k n).getD i 0 = if i < n then s.getD i 0 ^^^ k.getD i 0 else s.getD i 0
  | 0, _, i => by simp [xorI]
  | n + 1, hn, i => by
    rw [xorI, getD_set (by rw [xorI_length, hs]; omega)]
    by_cases h : i = n
    · subst h
      rw [if_pos rfl, xorI_at s k hs i (by omega) i, if_neg (Nat.lt_irrefl _), if_pos (Nat.lt_succ_self _)]
    · rw [if_neg h, xorI_at s k hs n (by omega) i]
      by_cases h2 : i < n
      · rw [if_pos h2, if_pos (by omega)]
      · rw [if_neg h2, if_neg (by omega)]
theorem xorF_at (s k : List (BitVec 8)) (hs : s.length = 16) (i : Nat) (hi : i < 16) : (xorF s k).getD i 0 = s.getD i 0 ^^^ k.getD i 0 := by
  rw [xorF, xorI_at s k hs 16 (Nat.le_refl _) i, if_pos hi]
theorem xor_xor (s k : List (BitVec 8)) (hs : s.length = 16) : xorF (xorF s k) k = s := by
  have h1 : (xorF s k).length = 16 := by rw [xorF_length, hs]
  refine ext16 (by rw [xorF_length, h1]) hs fun i hi => ?_
  rw [xorF_at _ k h1 i hi, xorF_at s k hs i hi, BitVec.xor_assoc, BitVec.xor_self, BitVec.xor_zero]

def sg (i : Nat) : Nat := (i + 4 * (i % 4)) % 16
theorem sg_inj : ∀ i, i < 16 → ∀ j, j < 16 → sg i = sg j → i = j := by decide
theorem sg_onto : ∀ i, i < 16 → ∃ j, j < 16 ∧ sg j = i := by decide
theorem sg_lt (i : Nat) : sg i < 16 := Nat.mod_lt _ (by decide)

theorem subI_at (s : List (BitVec 8)) : ∀ n, n ≤ 16 → ∀ i, i < n → (subI s n).getD i 0 = sboxF (s.getD (sg i) 0)
  | 0, _, i, hi => by omega
  | n + 1, hn, i, hi => by
    rw [subI, getD_set (by rw [subI_length]; omega)]
    by_cases h : i = n
    · subst h; rw [if_pos rfl]; rfl
    · rw [if_neg h]
      exact subI_at s n (by omega) i (by omega)
theorem usubI_at (s : List (BitVec 8)) : ∀ n, n ≤ 16 → ∀ i, i < n → (usubI s n).getD (sg i) 0 = usboxF (s.getD i 0)
  | 0, _, i, hi => by omega
  | n + 1, hn, i, hi => by
    rw [usubI, show (n + 4 * (n % 4)) % 16 = sg n from rfl, getD_set (by rw [usubI_length]; exact sg_lt n)]
    by_cases h : i = n
    · subst h; rw [if_pos rfl]
    · rw [if_neg (fun e => h (sg_inj i (by omega) n (by omega) e))]
      exact usubI_at s n (by omega) i (by omega)
theorem usub_sub (s : List (BitVec 8)) (hs : s.length = 16) : usubI (subI s 16) 16 = s := by
  refine ext16 (usubI_length _ _) hs fun i hi => ?_
  obtain ⟨j, hj, rfl⟩ := sg_onto i hi
  rw [usubI_at _ 16 (Nat.le_refl _) j hj, subI_at _ 16 (Nat.le_refl _) j hj, (box_back _).1]
theorem sub_usub (s : List (BitVec 8)) (hs : s.length = 16) : subI (usubI s 16) 16 = s := by
  refine ext16 (subI_length _ _) hs fun i hi => ?_
  rw [subI_at _ 16 (Nat.le_refl _) i hi, usubI_at _ 16 (Nat.le_refl _) i hi, (box_back _).2]

theorem dec_enc (ks : List (List (BitVec 8))) (a : List (BitVec 8)) (ha : a.length = 16) : decF ks (encI ks a 14) = a := by
  have key : ∀ k, k ≤ 14 → decI ks (encI ks a 14) k = encI ks a (14 - k) := by
    intro k
    induction k with
    | zero => intro _; rfl
    | succ k ih =>
      intro hk
      have hl := encI_length ks a ha (14 - (k + 1))
      rw [decI, ih (by omega)]
      have e : 14 - k = 14 - (k + 1) + 1 := by omega
      have e2 : encI ks a (14 - k) = xorF (if 14 - k < 14 then mixF (subI (encI ks a (14 - (k + 1))) 16) else subI (encI ks a (14 - (k + 1))) 16) (ks.getD (14 - k) []) := by
        rw [e]; rfl
      unfold decT
      rw [e2]
      by_cases h : 14 - k < 14
      · simp only [if_pos h]
        rw [xor_xor _ _ (by rw [mixF_length, subI_length]), unmix_mix _ (subI_length _ _), usub_sub _ hl]
      · simp only [if_neg h]
        rw [xor_xor _ _ (subI_length _ _), usub_sub _ hl]
  rw [decF, key 14 (Nat.le_refl _)]
  exact xor_xor a _ ha

theorem enc_dec (ks : List (List (BitVec 8))) (b : List (BitVec 8)) (hb : b.length = 16) : encI ks (decF ks b) 14 = b := by
  have key : ∀ n, n ≤ 14 → encI ks (decF ks b) n = decI ks b (14 - n) := by
    intro n
    induction n with
    | zero => intro _; exact xor_xor _ _ (decI_length ks b hb 14)
    | succ n ih =>
      intro hn
      have hl := decI_length ks b hb (14 - (n + 1))
      have hx : (xorF (decI ks b (14 - (n + 1))) (ks.getD (n + 1) [])).length = 16 := by rw [xorF_length, hl]
      rw [encI, ih (by omega)]
      have e : 14 - n = 14 - (n + 1) + 1 := by omega
      have e2 : decI ks b (14 - n) = usubI (decT ks (14 - (n + 1)) (decI ks b (14 - (n + 1)))) 16 := by rw [e]; rfl
      have e3 : 14 - (14 - (n + 1)) = n + 1 := by omega
      rw [e2]
      unfold decT
      rw [e3]
      by_cases h : n + 1 < 14
      · simp only [if_pos h]
        rw [sub_usub _ (by rw [unmixF_length, hx]), mix_unmix _ hx, xor_xor _ _ hl]
      · simp only [if_neg h]
        rw [sub_usub _ hx, xor_xor _ _ hl]
  exact key 14 (Nat.le_refl _)
end Go.Proofs.YtodkhgofmgaafaaDoor.Av

namespace Go.Proofs.YtodkhgofmgaafaaDoor.Av
open Go
set_option linter.all false
set_option maxRecDepth 3000

/-! what a mask does -/
theorem xrI_at (l : List (BitVec 8)) (o : Nat) (e : List (BitVec 8)) : ∀ n, o + n ≤ l.length → ∀ j, (xrI l o e n).getD j 0 = if o ≤ j ∧ j < o + n then l.getD j 0 ^^^ e.getD (j - o) 0 else l.getD j 0
  | 0, _, j => by rw [if_neg (by omega)]; rfl
  | n + 1, h, j => by
    rw [xrI, getD_set (by rw [xrI_length]; omega), xrI_at l o e n (by omega), xrI_at l o e n (by omega)]
    rw [if_neg (show ¬ (o ≤ o + n ∧ o + n < o + n) by omega)]
    by_cases hj : j = o + n
    · subst hj; rw [if_pos rfl, if_pos (by omega), show o + n - o = n by omega]
    · rw [if_neg hj]
      by_cases h2 : o ≤ j ∧ j < o + n
      · rw [if_pos h2, if_pos (by omega)]
      · rw [if_neg h2, if_neg (by omega)]
def mkB (b : List (BitVec 8)) (j : Nat) : BitVec 8 := if j < 16 then (encI (schedF (labF b wrapS)) (blkN 0) 14).getD j 0 else (encI (schedF (labF b wrapS)) (blkN 1) 14).getD (j - 16) 0
theorem maskF_at (b k : List (BitVec 8)) (hk : k.length = 32) (j : Nat) (hj : j < 32) : (maskF b k).getD j 0 = k.getD j 0 ^^^ mkB b j := by
  rw [maskF, xrI_at _ _ _ 16 (by rw [xrI_length]; omega), xrI_at _ _ _ 16 (by omega)]
  unfold mkB
  by_cases h : j < 16
  · rw [if_neg (by omega), if_pos (by omega), if_pos h, Nat.sub_zero]
  · rw [if_pos (by omega), if_neg (by omega), if_neg h]
theorem xor_xor_r (a b : BitVec 8) : a ^^^ b ^^^ b = a := by rw [BitVec.xor_assoc, BitVec.xor_self, BitVec.xor_zero]
theorem mask_mask (b k : List (BitVec 8)) (hk : k.length = 32) : maskF b (maskF b k) = k := by
  have h1 := maskF_length b k
  refine eq_getD (by rw [maskF_length, h1]) fun i hi => ?_
  rw [maskF_length, h1, hk] at hi
  rw [maskF_at _ _ (h1.trans hk) i hi, maskF_at _ _ hk i hi, xor_xor_r]
theorem mask_inj {b k l : List (BitVec 8)} (hk : k.length = 32) (hl : l.length = 32) : maskF b k = maskF b l ↔ k = l :=
  ⟨fun h => by rw [← mask_mask b k hk, h, mask_mask b l hl], fun h => by rw [h]⟩
/-- no mask is nothing: AES leads back -/
theorem mask_ne (b k : List (BitVec 8)) (hk : k.length = 32) : maskF b k ≠ k := by
  intro h
  have key : ∀ j, j < 32 → mkB b j = 0 := fun j hj => by
    have h2 := maskF_at b k hk j hj
    rw [h] at h2
    rw [← xor_cancel (k.getD j 0) (mkB b j), ← h2, BitVec.xor_self]; rfl
  have l0 := encI_length (schedF (labF b wrapS)) (blkN 0) rfl 14
  have l1 := encI_length (schedF (labF b wrapS)) (blkN 1) rfl 14
  have e : encI (schedF (labF b wrapS)) (blkN 0) 14 = encI (schedF (labF b wrapS)) (blkN 1) 14 := ext16 l0 l1 fun i hi => by
    have h0 := key i (by omega)
    have h1 := key (16 + i) (by omega)
    unfold mkB at h0 h1
    rw [if_pos hi] at h0
    rw [if_neg (by omega), show 16 + i - 16 = i by omega] at h1
    rw [h0, h1]
  have := (dec_enc (schedF (labF b wrapS)) (blkN 0) rfl).symm.trans ((congrArg _ e).trans (dec_enc (schedF (labF b wrapS)) (blkN 1) rfl))
  exact absurd this (by decide)
end Go.Proofs.YtodkhgofmgaafaaDoor.Av

namespace Go.Proofs.YtodkhgofmgaafaaDoor.Av
open Go
set_option linter.all false
set_option maxRecDepth 3000

theorem opR_free (ks : List (BitVec 8)) : ∀ (l : List Slot) (i : Nat), (∀ s ∈ l, s.used = false) → opR ks l i = (List.replicate 32 0, 0, 30)
  | [], _, _ => rfl
  | s :: r, i, h => by
    obtain ⟨u, t, sa, se, ch⟩ := s
    have hu : u = false := h ⟨u, t, sa, se, ch⟩ (by simp)
    subst hu
    rw [opR_cons, hit_free]
    exact opR_free ks r (i + 1) fun x hx => h x (by simp [hx])
theorem opR_hit (ks : List (BitVec 8)) (r : List Slot) (i n : Nat) (t : BitVec 16) (sa se ch : List (BitVec 8)) (hn : t.toNat = n) (h1 : 1 ≤ n) (h2 : n ≤ 4096) (h : chkF (dkF ks sa n) se = ch) : opR ks (⟨true, t, sa, se, ch⟩ :: r) i = (maskF (dkF ks sa n) se, i, 0) := by
  subst hn
  rw [opR_cons, hit_yes h1 h2, decide_eq_true h]
  rfl
theorem opR_miss (ks : List (BitVec 8)) (r : List Slot) (i n : Nat) (t : BitVec 16) (sa se ch : List (BitVec 8)) (hn : t.toNat = n) (h1 : 1 ≤ n) (h2 : n ≤ 4096) (h : chkF (dkF ks sa n) se ≠ ch) : opR ks (⟨true, t, sa, se, ch⟩ :: r) i = opR ks r (i + 1) := by
  subst hn
  rw [opR_cons, hit_yes h1 h2, decide_eq_false h]
  rfl
theorem tab0_free : ∀ s ∈ tab0, s.used = false := fun s h => by rw [List.eq_of_mem_replicate h]; rfl

/-- what the closed case comes to -/
theorem awake_facts : ∃ s : Slot, s.ok ∧
    AC Tryd.prog 18 [tabD tab0, .slice 0 [] 0 1 (some 1), .u8s saltA, .i64 1, .u8s mastA] 1 [(0, some ⟨.row .cell, .u8s [97], false⟩), gR] ⟨.tup [tabD (s :: List.replicate 7 slot0), .i64 0], [], []⟩ ∧
    AC Tryd.prog 15 [tabD (s :: List.replicate 7 slot0), .slice 0 [] 0 1 (some 1)] 1 [(0, some ⟨.row .cell, .u8s [97], false⟩), gR] ⟨.tup [.u8s mastA, .i64 0, .i64 0], [], []⟩ ∧
    AC Tryd.prog 15 [tabD (s :: List.replicate 7 slot0), .slice 0 [] 0 1 (some 1)] 1 [(0, some ⟨.row .cell, .u8s [98], false⟩), gR] ⟨.tup [.u8s (List.replicate 32 0), .i64 0, .i64 30], [], []⟩ ∧
    AC Tryd.prog 27 [tabD (s :: List.replicate 7 slot0)] 0 [] ⟨.i64 1, [], []⟩ := by
  have hno := opR_free [97] tab0 0 tab0_free
  have hadd := sadd_ac [97] tab0 saltA mastA 1 1 0 (some 1) rfl (fun h => nomatch h) (by decide) tab0_ok rfl rfl (by decide) (by decide) (by rw [hno]) rfl (by decide)
  have hso := sealS_ok (ks := [97]) (n := 1) (salt := saltA) (master := mastA) rfl rfl
  have hT : TabS (sealS [97] saltA 1 mastA :: List.replicate 7 slot0) := ⟨rfl, fun x hx => by
    rcases List.mem_cons.1 hx with h | h
    · rw [h]; exact hso
    · rw [List.eq_of_mem_replicate h]; exact slot0_ok⟩
  have hoa := sopen_ac [97] _ 1 (some 1) rfl (fun h => nomatch h) (by decide) hT
  have hob := sopen_ac [98] _ 1 (some 1) rfl (fun h => nomatch h) (by decide) hT
  have hu := used_ac _ hT
  have hm : maskF (dkF [97] saltA 1) (maskF (dkF [97] saltA 1) mastA) = mastA := mask_mask _ _ rfl
  have e1 : opR [97] (sealS [97] saltA 1 mastA :: List.replicate 7 slot0) 0 = (mastA, 0, 0) := by
    unfold sealS
    rw [opR_hit [97] _ 0 1 _ saltA _ _ rfl (by decide) (by decide) rfl, hm]
  have e2 : opR [98] (sealS [97] saltA 1 mastA :: List.replicate 7 slot0) 0 = (List.replicate 32 0, 0, 30) := by
    unfold sealS
    rw [z_a, opR_miss [98] _ 0 1 _ saltA _ _ rfl (by decide) (by decide) chk_ne]
    exact opR_free [98] _ 1 fun s h => by rw [List.eq_of_mem_replicate h]; rfl
  rw [e1] at hoa
  rw [e2] at hob
  have hus : usedN (sealS [97] saltA 1 mastA :: List.replicate 7 slot0) = 1 := by
    unfold sealS
    generalize chkF (dkF [97] saltA 1) (maskF (dkF [97] saltA 1) mastA) = c
    generalize maskF (dkF [97] saltA 1) mastA = z
    rfl
  rw [hus] at hu
  have hset : tab0.set 0 (sealS [97] saltA 1 mastA) = sealS [97] saltA 1 mastA :: List.replicate 7 slot0 := rfl
  rw [hset] at hadd
  generalize sealS [97] saltA 1 mastA = s at *
  exact ⟨s, hso, hadd, hoa, hob, hu⟩

theorem slawake_ac : AC Tryd.prog 14 [] 0 [gR] ⟨.bool true, [], []⟩ := by
  obtain ⟨⟨u, t, sa, se, ch⟩, ⟨hsa, hse, hch⟩, h1, h2, h3, h4⟩ := awake_facts
  have hsa : sa.length = 16 := hsa
  have hse : se.length = 32 := hse
  have hch : ch.length = 32 := hch
  have hT : hasTy tTab (tabD (⟨u, t, sa, se, ch⟩ :: List.replicate 7 slot0)) := TabS.ty ⟨rfl, fun x hx => by
    rcases List.mem_cons.1 hx with h | h
    · rw [h]; exact ⟨hsa, hse, hch⟩
    · rw [List.eq_of_mem_replicate h]; exact slot0_ok⟩
  have hml : mastA.length = 32 := rfl
  refine acA tab mix Tryd.func14 {} ?_
  repeat first | refine EffG.mk (obA ?_) | refine obA ?_ | refine chkA ?_
  refine callA h1 [0] ?_
  repeat first | refine EffG.mk (obA ?_) | refine obA ?_ | refine chkA ?_
  refine EffG.mk (And.intro ⟨trivial, hT⟩ ?_)
  repeat first | refine EffG.mk (obA ?_) | refine obA ?_ | refine chkA ?_
  refine callA h2 [2] ?_
  repeat first | refine EffG.mk (obA ?_) | refine obA ?_ | refine chkA ?_
  refine callA h3 [4] ?_
  repeat first | refine EffG.mk (obA ?_) | refine obA ?_ | refine chkA ?_ | refine brY ?_ | refine brN ?_
  refine callA h4 [] ?_
  repeat first | refine EffG.mk (obA ?_) | refine obA ?_ | refine chkA ?_ | refine brY ?_ | refine brN ?_
  refine retA []
end Go.Proofs.YtodkhgofmgaafaaDoor.Av

namespace Go.Proofs.YtodkhgofmgaafaaDoor.Av
open Go
set_option linter.all false
set_option maxRecDepth 3000

/-! the document's sums with a key -/
def hbI (bs : List (BitVec 8)) (o k : Nat) (x : BitVec 8) : Nat → List (BitVec 8)
  | 0 => List.replicate 64 0
  | i + 1 => if i < k then ((hbI bs o k x i).set i x).set i (bs.getD (o + i) 0 ^^^ x) else (hbI bs o k x i).set i x
theorem hbI_length (bs : List (BitVec 8)) (o k : Nat) (x : BitVec 8) : ∀ i, (hbI bs o k x i).length = 64
  | 0 => rfl
  | i + 1 => by
    rw [hbI]
    split
    · rw [List.length_set, List.length_set, hbI_length bs o k x i]
    · rw [List.length_set, hbI_length bs o k x i]
theorem hbI_at (bs : List (BitVec 8)) (o k : Nat) (x : BitVec 8) : ∀ n, n ≤ 64 → ∀ i, i < n → (hbI bs o k x n).getD i 0 = (if i < k then bs.getD (o + i) 0 else 0) ^^^ x
  | 0, _, i, hi => absurd hi (Nat.not_lt_zero i)
  | n + 1, hn, i, hi => by
    have hl := hbI_length bs o k x n
    rw [hbI]
    by_cases hk : n < k
    · rw [if_pos hk, List.set_set, getD_set (by omega)]
      by_cases h : i = n
      · subst h; rw [if_pos rfl, if_pos hk]
      · rw [if_neg h, hbI_at bs o k x n (by omega) i (by omega)]
    · rw [if_neg hk, getD_set (by omega)]
      by_cases h : i = n
      · subst h; rw [if_pos rfl, if_neg hk]; exact BitVec.zero_xor.symm
      · rw [if_neg h, hbI_at bs o k x n (by omega) i (by omega)]
theorem xsI_at (base key : List (BitVec 8)) (c : BitVec 8) : ∀ n, n ≤ base.length → ∀ i, i < n → (xsI base key c n).getD i 0 = key.getD i 0 ^^^ c
  | 0, _, i, hi => absurd hi (Nat.not_lt_zero i)
  | n + 1, hn, i, hi => by
    rw [xsI, getD_set (by rw [xsI_length]; omega)]
    by_cases h : i = n
    · rw [if_pos h, h]
    · rw [if_neg h, xsI_at base key c n (by omega) i (by omega)]
theorem keyP_at (bs : List (BitVec 8)) (o k : Nat) (h : o + k ≤ bs.length) (i : Nat) : (keyP ((bs.drop o).take k)).getD i 0 = if i < k then bs.getD (o + i) 0 else 0 := by
  have hl : ((bs.drop o).take k).length = k := by rw [List.length_take, List.length_drop]; omega
  unfold keyP
  by_cases hi : i < k
  · rw [if_pos hi, getD_append_left (by omega), getD_take hi, getD_drop]
  · rw [if_neg hi]
    simp only [List.getD_eq_getElem?_getD]
    rw [List.getElem?_append_right (by omega), List.getElem?_replicate]
    split <;> rfl
theorem hb_ip (bs : List (BitVec 8)) (o k : Nat) (h : o + k ≤ bs.length) (hk : k ≤ 64) : hbI bs o k 0x36 64 = ipF ((bs.drop o).take k) := by
  have hl : ((bs.drop o).take k).length = k := by rw [List.length_take, List.length_drop]; omega
  have hp := keyP_length (key := (bs.drop o).take k) (by omega)
  have h1 := ipF_length (key := (bs.drop o).take k) (by omega)
  have h2 := hbI_length bs o k 0x36 64
  refine eq_getD (by rw [h1, h2]) fun i hi => ?_
  rw [hbI_at bs o k _ 64 (Nat.le_refl _) i (by omega), ipF, xsI_at _ _ _ 64 (by omega) i (by omega), keyP_at bs o k h]
theorem hb_op (bs : List (BitVec 8)) (o k : Nat) (h : o + k ≤ bs.length) : hbI bs o k 0x5c 64 = opF ((bs.drop o).take k) := by
  have h1 := opF_length ((bs.drop o).take k)
  have h2 := hbI_length bs o k 0x5c 64
  refine eq_getD (by rw [h1, h2]) fun i hi => ?_
  rw [hbI_at bs o k _ 64 (Nat.le_refl _) i (by omega), opF, xsI_at _ _ _ 64 (by rw [List.length_replicate]; omega) i (by omega), keyP_at bs o k h]

theorem hblock_ac (bs : List (BitVec 8)) (o k : Nat) (cap : Option Nat) (x : BitVec 8) (h : o + k ≤ bs.length) (hk : k ≤ 64) :
    AC Tryd.prog 151 [.slice 0 [] o k cap, .u8 x] 1 [(0, some ⟨.row .cell, .u8s bs, false⟩)] ⟨.slice 1 [] 0 64 none, [], [(.row .cell, .u8s (hbI bs o k x 64))]⟩ := by
  refine acA tab mix Tryd.func151 {} ?_
  repeat first | refine EffG.mk (obA ?_) | refine obA ?_ | refine chkA ?_ | refine brY ?_ | refine brN ?_
  refine loopG Nat (fun i => [(0, .slice 0 [] o k cap), (1, .u8 x), (6, .slice 1 [] 0 64 none), (7, .i64 i)]) (fun i => [(0, some ⟨.row .cell, .u8s bs, false⟩), (1, some ⟨.row .cell, .u8s (hbI bs o k x i), true⟩)]) 2 (fun i => i ≤ 64) (fun i => 64 - i) 0 [0, 1] (Nat.zero_le _) viewA ?_
  intro i hi
  have hl := hbI_length bs o k x i
  repeat first | refine EffG.mk (obA ?_) | refine obA ?_ | refine chkA ?_
  refine Br.split (fun h => ?_) (fun h => ?_)
  · have hi : i < 64 := by have := of_decide_eq_true h; omega
    repeat first | refine EffG.mk (obA ?_) | refine obA ?_ | refine chkA ?_
    refine Br.split (fun h => ?_) (fun h => ?_)
    · have hik : i < k := by have := of_decide_eq_true h; omega
      have e : hbI bs o k x (i + 1) = ((hbI bs o k x i).set i x).set i (bs.getD (o + i) 0 ^^^ x) := by rw [hbI, if_pos hik]
      repeat first | refine EffG.mk (obA ?_) | refine obA ?_ | refine chkA ?_
      refine nextA (i + 1) [0, 1] (viewA (h3 := ?_))
      rw [e]
      exact ⟨⟨_, rfl, rfl, rfl, id⟩, ⟨_, rfl, rfl, by rw [Nat.zero_add]; rfl, id⟩, trivial⟩
    · have hik : ¬ i < k := by have := of_decide_eq_false h; omega
      have e : hbI bs o k x (i + 1) = (hbI bs o k x i).set i x := by rw [hbI, if_neg hik]
      repeat first | refine EffG.mk (obA ?_) | refine obA ?_ | refine chkA ?_
      refine nextA (i + 1) [0, 1] (viewA (h3 := ?_))
      rw [e]
      exact ⟨⟨_, rfl, rfl, rfl, id⟩, ⟨_, rfl, rfl, by rw [Nat.zero_add]; rfl, id⟩, trivial⟩
  · obtain rfl : i = 64 := by have := of_decide_eq_false h; omega
    repeat first | refine EffG.mk (obA ?_) | refine obA ?_ | refine chkA ?_
    refine retA [0, 1]

theorem rhof_ac (ks bs : List (BitVec 8)) (p k q l : Nat) (c d : Option Nat) (ha : p + k ≤ ks.length) (hb : q + l ≤ bs.length) (hk : k ≤ 64) (hl : l ≤ 30000000000000) :
    AC Tryd.prog 126 [.slice 0 [] p k c, .slice 1 [] q l d] 2 [(0, some ⟨.row .cell, .u8s ks, false⟩), (1, some ⟨.row .cell, .u8s bs, false⟩), gK] ⟨.u8s (hmF ((ks.drop p).take k) ((bs.drop q).take l)), [], []⟩ := by
  have hbl : ((bs.drop q).take l).length = l := by rw [List.length_take, List.length_drop]; omega
  have hkl : ((ks.drop p).take k).length = k := by rw [List.length_take, List.length_drop]; omega
  have hi := hblock_ac ks p k c 0x36 ha hk
  have ho := hblock_ac ks p k c 0x5c ha hk
  rw [hb_ip ks p k ha hk] at hi
  rw [hb_op ks p k ha] at ho
  have e : hmF ((ks.drop p).take k) ((bs.drop q).take l) = shaF (opF ((ks.drop p).take k) ++ shaF (ipF ((ks.drop p).take k) ++ (bs.drop q).take l)) := rfl
  have hO := opF_length ((ks.drop p).take k)
  have hN := ipF_length (key := (ks.drop p).take k) (by omega)
  generalize hmF ((ks.drop p).take k) ((bs.drop q).take l) = y at e ⊢
  generalize opF ((ks.drop p).take k) = O at ho e hO
  generalize ipF ((ks.drop p).take k) = N at hi e hN
  have hs1 := rof_ac (List.take 64 N ++ (bs.drop q).take l) 0 (64 + l) none (by rw [List.length_append, hbl, List.take_of_length_le (by omega), hN]; omega) (by omega)
  rw [List.drop_zero, List.take_of_length_le (l := List.take 64 N ++ _) (by rw [List.length_append, hbl, List.length_take]; omega)] at hs1
  have hNt : List.take 64 N = N := List.take_of_length_le (by omega)
  have hs1l := shaF_length (List.take 64 N ++ (bs.drop q).take l)
  rw [hNt] at hs1 hs1l
  generalize shaF (N ++ (bs.drop q).take l) = z at hs1 hs1l e
  have hs2 := rof_ac (O ++ z) 0 (64 + 32) none (by rw [List.length_append]; omega) (by decide)
  rw [List.drop_zero, List.take_of_length_le (l := O ++ z) (by rw [List.length_append]; omega), ← e] at hs2
  have hy : y.length = 32 := by rw [e]; exact shaF_length _
  refine acA tab mix Tryd.func126 {} ?_
  repeat first | refine EffG.mk (obA ?_) | refine obA ?_ | refine chkA ?_
  refine callA hi [0] ?_
  repeat first | refine EffG.mk (obA ?_) | refine obA ?_ | refine chkA ?_
  refine ⟨0, ?_⟩
  repeat first | refine EffG.mk (obA ?_) | refine obA ?_ | refine chkA ?_
  refine callA hs1 [4] ?_ (hm := ?_)
  rotate_left
  · exact ⟨⟨_, rfl, rfl, congrArg (fun x => D.u8s (x ++ (bs.drop q).take l)) hNt, fun _ => rfl⟩, ⟨_, rfl, rfl, rfl, id⟩, trivial⟩
  repeat first | refine EffG.mk (obA ?_) | refine obA ?_ | refine chkA ?_
  refine callA ho [0] ?_
  repeat first | refine EffG.mk (obA ?_) | refine obA ?_ | refine chkA ?_
  refine ⟨0, ?_⟩
  repeat first | refine EffG.mk (obA ?_) | refine obA ?_ | refine chkA ?_
  refine callA hs2 [7] ?_ (hm := ?_)
  rotate_left
  · exact ⟨⟨_, rfl, rfl, congrArg (fun x => D.u8s x) (show List.take 64 O ++ List.take 32 z = O ++ z by rw [List.take_of_length_le (by omega), List.take_of_length_le (by omega)]), fun _ => rfl⟩, ⟨_, rfl, rfl, rfl, id⟩, trivial⟩
  repeat first | refine EffG.mk (obA ?_) | refine obA ?_ | refine chkA ?_
  refine retA [0, 1]

theorem rlabel_ac (key l : List (BitVec 8)) (hk : key.length = 32) (hl : l.length ≤ 100) : AC Tryd.prog 125 [.u8s key, .str l] 0 [gK] ⟨.u8s (labF key l), [], []⟩ := by
  have hol : (oursF ++ l).length = 10 + l.length := by rw [List.length_append]; rfl
  have ho := rhof_ac key (oursF ++ l) 0 32 0 (oursF ++ l).length (some 32) none (by omega) (by omega) (by decide) (by omega)
  have e : labF key l = hmF key (oursF ++ l) := rfl
  rw [List.drop_zero, List.drop_zero, List.take_of_length_le (by omega), List.take_of_length_le (Nat.le_refl _), ← e] at ho
  have hy := labF_length key l
  generalize labF key l = y at ho hy ⊢
  refine acA tab mix Tryd.func125 {} ?_
  repeat first | refine EffG.mk (obA ?_) | refine obA ?_ | refine chkA ?_
  refine callA (ho.arr 0 32) [0, 2] ?_
  repeat first | refine EffG.mk (obA ?_) | refine obA ?_ | refine chkA ?_
  refine retA []
end Go.Proofs.YtodkhgofmgaafaaDoor.Av

namespace Go.Proofs.YtodkhgofmgaafaaDoor.Av
open Go
set_option linter.all false
set_option maxRecDepth 3000

/-! the document's sums with any key -/
theorem hblock_nil_ac (x : BitVec 8) :
    AC Tryd.prog 151 [.nilslice, .u8 x] 1 [(0, some ⟨.row .cell, .u8s [], false⟩), gK] ⟨.slice 1 [] 0 64 none, [], [(.row .cell, .u8s (hbI [] 0 0 x 64))]⟩ := by
  refine acA tab mix Tryd.func151 {} ?_
  repeat first | refine EffG.mk (obA ?_) | refine obA ?_ | refine chkA ?_ | refine brY ?_ | refine brN ?_
  refine loopG Nat (fun i => [(0, .nilslice), (1, .u8 x), (6, .slice 1 [] 0 64 none), (7, .i64 i)]) (fun i => [(0, some ⟨.row .cell, .u8s [], false⟩), (1, some ⟨.row .cell, .u8s (hbI [] 0 0 x i), true⟩), gK]) 2 (fun i => i ≤ 64) (fun i => 64 - i) 0 [0, 1] (Nat.zero_le _) viewA ?_
  intro i hi
  have hl := hbI_length [] 0 0 x i
  repeat first | refine EffG.mk (obA ?_) | refine obA ?_ | refine chkA ?_
  refine Br.split (fun h => ?_) (fun h => ?_)
  · have hi : i < 64 := by have := of_decide_eq_true h; omega
    have e : hbI [] 0 0 x (i + 1) = (hbI [] 0 0 x i).set i x := by rw [hbI, if_neg (by omega)]
    repeat first | refine EffG.mk (obA ?_) | refine obA ?_ | refine chkA ?_ | refine brY ?_ | refine brN ?_
    refine nextA (i + 1) [0, 1] (viewA (h3 := ?_))
    rw [e]
    exact ⟨⟨_, rfl, rfl, rfl, id⟩, ⟨_, rfl, rfl, by rw [Nat.zero_add]; rfl, id⟩, ⟨_, rfl, rfl, rfl, id⟩, trivial⟩
  · obtain rfl : i = 64 := by have := of_decide_eq_false h; omega
    repeat first | refine EffG.mk (obA ?_) | refine obA ?_ | refine chkA ?_
    refine retA [0, 1]
theorem hblock_long_ac (bs : List (BitVec 8)) (n : Nat) (cap : Option Nat) (x : BitVec 8) (hn : bs.length = n) (h64 : 64 < n) (hk : n ≤ 1000000) :
    AC Tryd.prog 151 [.slice 0 [] 0 n cap, .u8 x] 1 [(0, some ⟨.row .cell, .u8s bs, false⟩), gK] ⟨.slice 1 [] 0 64 none, [], [(.row .cell, .u8s (hbI (shaF bs) 0 32 x 64))]⟩ := by
  have hs := rof_ac bs 0 n cap (by omega) (by omega)
  rw [List.drop_zero, List.take_of_length_le (by omega)] at hs
  have hsl := shaF_length bs
  generalize shaF bs = S at hs hsl ⊢
  refine acA tab mix Tryd.func151 {} ?_
  repeat first | refine EffG.mk (obA ?_) | refine obA ?_ | refine chkA ?_ | refine brY ?_ | refine brN ?_
  refine callA hs [0] ?_
  repeat first | refine EffG.mk (obA ?_) | refine obA ?_ | refine chkA ?_ | refine brY ?_ | refine brN ?_
  refine loopG Nat (fun i => [(0, .slice 1 [] 0 32 (some 32)), (1, .u8 x), (6, .slice 2 [] 0 64 none), (7, .i64 i)]) (fun i => [(0, some ⟨.row .cell, .u8s bs, false⟩), (1, some ⟨t32, .u8s S, true⟩), (2, some ⟨.row .cell, .u8s (hbI S 0 32 x i), true⟩), gK]) 3 (fun i => i ≤ 64) (fun i => 64 - i) 0 [0, 1, 2] (Nat.zero_le _) viewA ?_
  intro i hi
  have hl := hbI_length S 0 32 x i
  repeat first | refine EffG.mk (obA ?_) | refine obA ?_ | refine chkA ?_
  refine Br.split (fun h => ?_) (fun h => ?_)
  · have hi : i < 64 := by have := of_decide_eq_true h; omega
    repeat first | refine EffG.mk (obA ?_) | refine obA ?_ | refine chkA ?_
    refine Br.split (fun h => ?_) (fun h => ?_)
    · have hik : i < 32 := by have := of_decide_eq_true h; omega
      have e : hbI S 0 32 x (i + 1) = ((hbI S 0 32 x i).set i x).set i (S.getD i 0 ^^^ x) := by rw [hbI, if_pos hik, Nat.zero_add]
      repeat first | refine EffG.mk (obA ?_) | refine obA ?_ | refine chkA ?_
      refine nextA (i + 1) [0, 1, 2] (viewA (h3 := ?_))
      rw [e]
      exact ⟨⟨_, rfl, rfl, rfl, id⟩, ⟨_, rfl, rfl, rfl, id⟩, ⟨_, rfl, rfl, by rw [Nat.zero_add]; rfl, id⟩, ⟨_, rfl, rfl, rfl, id⟩, trivial⟩
    · have hik : ¬ i < 32 := by have := of_decide_eq_false h; omega
      have e : hbI S 0 32 x (i + 1) = (hbI S 0 32 x i).set i x := by rw [hbI, if_neg hik]
      repeat first | refine EffG.mk (obA ?_) | refine obA ?_ | refine chkA ?_
      refine nextA (i + 1) [0, 1, 2] (viewA (h3 := ?_))
      rw [e]
      exact ⟨⟨_, rfl, rfl, rfl, id⟩, ⟨_, rfl, rfl, rfl, id⟩, ⟨_, rfl, rfl, by rw [Nat.zero_add]; rfl, id⟩, ⟨_, rfl, rfl, rfl, id⟩, trivial⟩
  · obtain rfl : i = 64 := by have := of_decide_eq_false h; omega
    repeat first | refine EffG.mk (obA ?_) | refine obA ?_ | refine chkA ?_
    refine retA [0, 2]
theorem hblockk_ac (bs : List (BitVec 8)) (o k : Nat) (cap : Option Nat) (x : BitVec 8) (h : o + k ≤ bs.length) (hk : k ≤ 64) :
    AC Tryd.prog 151 [.slice 0 [] o k cap, .u8 x] 1 [(0, some ⟨.row .cell, .u8s bs, false⟩), gK] ⟨.slice 1 [] 0 64 none, [], [(.row .cell, .u8s (hbI bs o k x 64))]⟩ := by
  refine acA tab mix Tryd.func151 {} ?_
  repeat first | refine EffG.mk (obA ?_) | refine obA ?_ | refine chkA ?_ | refine brY ?_ | refine brN ?_
  refine loopG Nat (fun i => [(0, .slice 0 [] o k cap), (1, .u8 x), (6, .slice 1 [] 0 64 none), (7, .i64 i)]) (fun i => [(0, some ⟨.row .cell, .u8s bs, false⟩), (1, some ⟨.row .cell, .u8s (hbI bs o k x i), true⟩), gK]) 2 (fun i => i ≤ 64) (fun i => 64 - i) 0 [0, 1] (Nat.zero_le _) viewA ?_
  intro i hi
  have hl := hbI_length bs o k x i
  repeat first | refine EffG.mk (obA ?_) | refine obA ?_ | refine chkA ?_
  refine Br.split (fun h => ?_) (fun h => ?_)
  · have hi : i < 64 := by have := of_decide_eq_true h; omega
    repeat first | refine EffG.mk (obA ?_) | refine obA ?_ | refine chkA ?_
    refine Br.split (fun h => ?_) (fun h => ?_)
    · have hik : i < k := by have := of_decide_eq_true h; omega
      have e : hbI bs o k x (i + 1) = ((hbI bs o k x i).set i x).set i (bs.getD (o + i) 0 ^^^ x) := by rw [hbI, if_pos hik]
      repeat first | refine EffG.mk (obA ?_) | refine obA ?_ | refine chkA ?_
      refine nextA (i + 1) [0, 1] (viewA (h3 := ?_))
      rw [e]
      exact ⟨⟨_, rfl, rfl, rfl, id⟩, ⟨_, rfl, rfl, by rw [Nat.zero_add]; rfl, id⟩, ⟨_, rfl, rfl, rfl, id⟩, trivial⟩
    · have hik : ¬ i < k := by have := of_decide_eq_false h; omega
      have e : hbI bs o k x (i + 1) = (hbI bs o k x i).set i x := by rw [hbI, if_neg hik]
      repeat first | refine EffG.mk (obA ?_) | refine obA ?_ | refine chkA ?_
      refine nextA (i + 1) [0, 1] (viewA (h3 := ?_))
      rw [e]
      exact ⟨⟨_, rfl, rfl, rfl, id⟩, ⟨_, rfl, rfl, by rw [Nat.zero_add]; rfl, id⟩, ⟨_, rfl, rfl, rfl, id⟩, trivial⟩
  · obtain rfl : i = 64 := by have := of_decide_eq_false h; omega
    repeat first | refine EffG.mk (obA ?_) | refine obA ?_ | refine chkA ?_
    refine retA [0, 1]

theorem hblock_any_ac (bs : List (BitVec 8)) (n : Nat) (c : Option Nat) (x : BitVec 8) (hn : bs.length = n) (hc : c = none → n = 0) (hk : n ≤ 1000000) :
    AC Tryd.prog 151 [slD 0 n c, .u8 x] 1 [(0, some ⟨.row .cell, .u8s bs, false⟩), gK] ⟨.slice 1 [] 0 64 none, [], [(.row .cell, .u8s (hbI (keyN bs) 0 (keyN bs).length x 64))]⟩ := by
  cases c with
  | none =>
    obtain rfl := hc rfl
    obtain rfl := List.eq_nil_of_length_eq_zero hn
    exact hblock_nil_ac x
  | some c =>
    by_cases h : 64 < n
    · rw [keyN, if_pos (by omega), shaF_length]
      exact hblock_long_ac bs n (some c) x hn h hk
    · rw [keyN, if_neg (by omega), hn]
      have hb := hblockk_ac bs 0 n (some c) x (by omega) (by omega)
      exact hb

theorem hb_ip0 (bs : List (BitVec 8)) (h : bs.length ≤ 64) : hbI bs 0 bs.length 0x36 64 = ipF bs := by
  have := hb_ip bs 0 bs.length (by omega) h
  rwa [List.drop_zero, List.take_of_length_le (Nat.le_refl _)] at this
theorem hb_op0 (bs : List (BitVec 8)) : hbI bs 0 bs.length 0x5c 64 = opF bs := by
  have := hb_op bs 0 bs.length (by omega)
  rwa [List.drop_zero, List.take_of_length_le (Nat.le_refl _)] at this

theorem rhofS_ac (ks bs : List (BitVec 8)) (k q l : Nat) (c d : Option Nat) (ha : ks.length = k) (hc : c = none → k = 0) (hb : q + l ≤ bs.length) (hk : k ≤ 1000000) (hl : l ≤ 30000000000000) :
    AC Tryd.prog 126 [slD 0 k c, .slice 1 [] q l d] 2 [(0, some ⟨.row .cell, .u8s ks, false⟩), (1, some ⟨.row .cell, .u8s bs, false⟩), gK] ⟨.u8s (hmF (keyN ks) ((bs.drop q).take l)), [], []⟩ := by
  have hbl : ((bs.drop q).take l).length = l := by rw [List.length_take, List.length_drop]; omega
  have hkl := keyN_length ks
  have hi := hblock_any_ac ks k c 0x36 ha hc hk
  have ho := hblock_any_ac ks k c 0x5c ha hc hk
  rw [hb_ip0 _ hkl] at hi
  rw [hb_op0] at ho
  have e : hmF (keyN ks) ((bs.drop q).take l) = shaF (opF (keyN ks) ++ shaF (ipF (keyN ks) ++ (bs.drop q).take l)) := rfl
  have hO := opF_length (keyN ks)
  have hN := ipF_length (key := keyN ks) (by omega)
  generalize hmF (keyN ks) ((bs.drop q).take l) = y at e ⊢
  generalize opF (keyN ks) = O at ho e hO
  generalize ipF (keyN ks) = N at hi e hN
  have hs1 := rof_ac (List.take 64 N ++ (bs.drop q).take l) 0 (64 + l) none (by rw [List.length_append, hbl, List.take_of_length_le (by omega), hN]; omega) (by omega)
  rw [List.drop_zero, List.take_of_length_le (l := List.take 64 N ++ _) (by rw [List.length_append, hbl, List.length_take]; omega)] at hs1
  have hNt : List.take 64 N = N := List.take_of_length_le (by omega)
  have hs1l := shaF_length (List.take 64 N ++ (bs.drop q).take l)
  rw [hNt] at hs1 hs1l
  generalize shaF (N ++ (bs.drop q).take l) = z at hs1 hs1l e
  have hs2 := rof_ac (O ++ z) 0 (64 + 32) none (by rw [List.length_append]; omega) (by decide)
  rw [List.drop_zero, List.take_of_length_le (l := O ++ z) (by rw [List.length_append]; omega), ← e] at hs2
  have hy : y.length = 32 := by rw [e]; exact shaF_length _
  refine acA tab mix Tryd.func126 {} ?_
  repeat first | refine EffG.mk (obA ?_) | refine obA ?_ | refine chkA ?_
  refine callA hi [0] ?_
  repeat first | refine EffG.mk (obA ?_) | refine obA ?_ | refine chkA ?_
  refine ⟨0, ?_⟩
  repeat first | refine EffG.mk (obA ?_) | refine obA ?_ | refine chkA ?_
  refine callA hs1 [4] ?_ (hm := ?_)
  rotate_left
  · exact ⟨⟨_, rfl, rfl, congrArg (fun x => D.u8s (x ++ (bs.drop q).take l)) hNt, fun _ => rfl⟩, ⟨_, rfl, rfl, rfl, id⟩, trivial⟩
  repeat first | refine EffG.mk (obA ?_) | refine obA ?_ | refine chkA ?_
  refine callA ho [0] ?_
  repeat first | refine EffG.mk (obA ?_) | refine obA ?_ | refine chkA ?_
  refine ⟨0, ?_⟩
  repeat first | refine EffG.mk (obA ?_) | refine obA ?_ | refine chkA ?_
  refine callA hs2 [7] ?_ (hm := ?_)
  rotate_left
  · exact ⟨⟨_, rfl, rfl, congrArg (fun x => D.u8s x) (show List.take 64 O ++ List.take 32 z = O ++ z by rw [List.take_of_length_le (by omega), List.take_of_length_le (by omega)]), fun _ => rfl⟩, ⟨_, rfl, rfl, rfl, id⟩, trivial⟩
  repeat first | refine EffG.mk (obA ?_) | refine obA ?_ | refine chkA ?_
  refine retA [0, 1]
end Go.Proofs.YtodkhgofmgaafaaDoor.Av

namespace Go.Proofs.YtodkhgofmgaafaaDoor.Av
open Go
set_option linter.all false
set_option maxRecDepth 3000

/-! the document's keys of passphrases -/
theorem rkb_ac (ks ss : List (BitVec 8)) (k n : Nat) (x : Option Nat) (ha : ks.length = k) (hx : x = none → k = 0) (hk : k ≤ 512) (hs : ss.length = 16) (h1 : 1 ≤ n) (h2 : n ≤ 4096) :
    AC Tryd.prog 129 [slD 0 k x, .slice 1 [] 0 16 (some 16), .i64 n, .i64 1] 2 [(0, some ⟨.row .cell, .u8s ks, false⟩), (1, some ⟨.row .cell, .u8s ss, false⟩), gK] ⟨.u8s (dkF ks ss n), [], []⟩ := by
  have h0 := rhofS_ac ks (ss ++ [0, 0, 0, 1]) k 0 20 x none ha hx (by rw [List.length_append, hs]; decide) (by omega) (by decide)
  rw [List.drop_zero, List.take_of_length_le (by rw [List.length_append, hs]; decide)] at h0
  have hp := rput4_ac 1
  have hn4 : nbF 1 4 = [0, 0, 0, 1] := by decide
  rw [hn4] at hp
  have h9 : ∀ i, AC Tryd.prog 126 [slD 0 k x, .slice 1 [] 0 32 (some 32)] 2 [(1, some ⟨t32, .u8s (dkL (keyN ks) (ss ++ [0, 0, 0, 1]) i), false⟩), (0, some ⟨.row .cell, .u8s ks, false⟩), gK]
      ⟨.u8s (dkL (keyN ks) (ss ++ [0, 0, 0, 1]) (i + 1)), [], []⟩ := fun i => by
    have hl := dkL_length (keyN ks) (ss ++ [0, 0, 0, 1]) i
    have := rhofS_ac ks (dkL (keyN ks) (ss ++ [0, 0, 0, 1]) i) k 0 32 x (some 32) ha hx (by omega) (by omega) (by decide)
    rw [List.drop_zero, List.take_of_length_le (by omega)] at this
    have := this.arr 1 32
    cases x <;> exact this
  have hll := dkL_length (keyN ks) (ss ++ [0, 0, 0, 1])
  have hal := dkA_length (keyN ks) (ss ++ [0, 0, 0, 1])
  have ha0 : dkA (keyN ks) (ss ++ [0, 0, 0, 1]) 0 = dkL (keyN ks) (ss ++ [0, 0, 0, 1]) 0 := rfl
  have ha1 : ∀ i, dkA (keyN ks) (ss ++ [0, 0, 0, 1]) (i + 1) = xoI (dkA (keyN ks) (ss ++ [0, 0, 0, 1]) i) (dkL (keyN ks) (ss ++ [0, 0, 0, 1]) (i + 1)) 32 := fun _ => rfl
  have hf : dkF ks ss n = dkA (keyN ks) (ss ++ [0, 0, 0, 1]) (n - 1) := rfl
  rw [show hmF (keyN ks) (ss ++ [0, 0, 0, 1]) = dkL (keyN ks) (ss ++ [0, 0, 0, 1]) 0 from rfl] at h0
  rw [hf]
  generalize dkL (keyN ks) (ss ++ [0, 0, 0, 1]) = L at *
  generalize dkA (keyN ks) (ss ++ [0, 0, 0, 1]) = A at *
  have hl0 := hll 0
  refine acA tab mix Tryd.func129 {} ?_
  repeat first | refine EffG.mk (obA ?_) | refine obA ?_ | refine chkA ?_
  refine ⟨0, ?_⟩
  repeat first | refine EffG.mk (obA ?_) | refine obA ?_ | refine chkA ?_
  refine callA hp [] ?_
  repeat first | refine EffG.mk (obA ?_) | refine obA ?_ | refine chkA ?_
  refine ⟨0, ?_⟩
  repeat first | refine EffG.mk (obA ?_) | refine obA ?_ | refine chkA ?_
  have e0 : List.take 16 ss = ss := List.take_of_length_le (by omega)
  refine callA h0 [0, 6] ?_ (hm := ?_)
  rotate_left
  · (repeat' (first | exact trivial | refine And.intro ⟨_, rfl, rfl, ?_, id⟩ ?_ | refine And.intro ⟨_, rfl, rfl, ?_, fun _ => rfl⟩ ?_)) <;> first | rfl | exact congrArg (fun x => D.u8s (x ++ [0, 0, 0, 1])) (show List.take 16 (List.take 16 ss) = ss by rw [e0, e0]) | exact congrArg (fun x => D.u8s (x ++ [0, 0, 0, 1])) e0
  repeat first | refine EffG.mk (obA ?_) | refine obA ?_ | refine chkA ?_
  refine loopG Nat (fun i => [(0, slD 0 k x), (2, .i64 n), (8, .ptr 2 []), (9, .ptr 3 []), (10, .ptr 4 []), (11, .i64 (1 + i : Nat))]) (fun i => [(0, some ⟨.row .cell, .u8s ks, false⟩), (1, some ⟨.row .cell, .u8s ss, false⟩),
    (2, some ⟨t32, .u8s (List.replicate 32 0), true⟩), (3, some ⟨t32, .u8s (L i), true⟩), (4, some ⟨t32, .u8s (A i), true⟩), gK]) 5 (fun i => i ≤ n - 1) (fun i => n - 1 - i) 0 [0, 1, 2, 7, 8] (Nat.zero_le _) (viewA (h3 := ?_)) ?_
  · rw [ha0]
    exact ⟨⟨_, rfl, rfl, rfl, id⟩, ⟨_, rfl, rfl, rfl, id⟩, ⟨_, rfl, rfl, rfl, id⟩, ⟨_, rfl, rfl, rfl, id⟩, ⟨_, rfl, rfl, rfl, id⟩, ⟨_, rfl, rfl, rfl, id⟩, trivial⟩
  intro i hi
  have hli := hll i
  have hai := hal i
  repeat first | refine EffG.mk (obA ?_) | refine obA ?_ | refine chkA ?_
  refine Br.split (fun h => ?_) (fun h => ?_)
  · have hi : i < n - 1 := by have := of_decide_eq_true h; omega
    have hl2 := hll (i + 1)
    repeat first | refine EffG.mk (obA ?_) | refine obA ?_ | refine chkA ?_
    refine callA (h9 i) [0, 3] ?_
    repeat first | refine EffG.mk (obA ?_) | refine obA ?_ | refine chkA ?_
    refine loopG Nat (fun j => [(0, slD 0 k x), (2, .i64 n), (8, .ptr 2 []), (9, .ptr 3 []), (10, .ptr 4 []), (11, .i64 (1 + i : Nat)), (12, .i64 j)]) (fun j => [(0, some ⟨.row .cell, .u8s ks, false⟩), (1, some ⟨.row .cell, .u8s ss, false⟩),
      (2, some ⟨t32, .u8s (List.replicate 32 0), true⟩), (3, some ⟨t32, .u8s (L (i + 1)), true⟩), (4, some ⟨t32, .u8s (xoI (A i) (L (i + 1)) j), true⟩), gK]) 5 (fun j => j ≤ 32) (fun j => 32 - j) 0 [0, 1, 2, 3, 4] (Nat.zero_le _) viewA ?_
    intro j hj
    have hxj := xoI_length (A i) (L (i + 1)) j
    rw [hai] at hxj
    repeat first | refine EffG.mk (obA ?_) | refine obA ?_ | refine chkA ?_
    refine Br.split (fun h => ?_) (fun h => ?_)
    · have hj : j < 32 := by have := of_decide_eq_true h; omega
      repeat first | refine EffG.mk (obA ?_) | refine obA ?_ | refine chkA ?_
      refine nextA (j + 1) [0, 1, 2, 3, 4] viewA
    · obtain rfl : j = 32 := by have := of_decide_eq_false h; omega
      rw [← ha1 i]
      repeat first | refine EffG.mk (obA ?_) | refine obA ?_ | refine chkA ?_
      refine nextA (i + 1) [0, 1, 2, 3, 4] viewA
  · obtain rfl : i = n - 1 := by have := of_decide_eq_false h; omega
    repeat first | refine EffG.mk (obA ?_) | refine obA ?_ | refine chkA ?_
    refine retA [0, 1]

theorem rderive_ac (ks ss : List (BitVec 8)) (k n : Nat) (x : Option Nat) (ha : ks.length = k) (hx : x = none → k = 0) (hk : k ≤ 512) (hs : ss.length = 16) (h1 : 1 ≤ n) (h2 : n ≤ 4096) :
    AC Tryd.prog 94 [slD 0 k x, .slice 1 [] 0 16 (some 16), .i64 n, .i64 32] 2 [(0, some ⟨.row .cell, .u8s ks, false⟩), (1, some ⟨.row .cell, .u8s ss, false⟩), gK]
      ⟨.tup [.slice 2 [] 0 32 none, .i64 0], [], [(.row .cell, .u8s (dkF ks ss n))]⟩ := by
  have hb := rkb_ac ks ss k n x ha hx hk hs h1 h2
  have hl := dkF_length ks ss n
  generalize dkF ks ss n = y at hb hl ⊢
  refine acA tab mix Tryd.func94 ⟨[], [7]⟩ ?_
  repeat first | refine EffG.mk (obA ?_) | refine obA ?_ | refine chkA ?_ | refine brY ?_ | refine brN ?_ | refine lenS rfl rfl rfl rfl hx rfl rfl ?_
  refine unrG 2 ?_
  repeat first | refine EffG.mk (obA ?_) | refine obA ?_ | refine chkA ?_ | refine brY ?_ | refine brN ?_
  refine callA hb [0, 1] ?_
  repeat first | refine EffG.mk (obA ?_) | refine obA ?_ | refine chkA ?_
  refine ⟨1, ?_⟩
  repeat first | refine EffG.mk (obA ?_) | refine obA ?_ | refine chkA ?_ | refine brY ?_ | refine brN ?_
  have e : List.take 32 y = y := List.take_of_length_le (by omega)
  refine retA [0, 1, 3] (h3 := ?_)
  (repeat' (first | exact trivial | refine And.intro ⟨_, rfl, rfl, ?_, id⟩ ?_ | refine And.intro ⟨_, rfl, rfl, ?_, fun _ => rfl⟩ ?_)) <;> first | rfl | exact congrArg D.u8s e

/-- a slot's key -/
def cpI (y : List (BitVec 8)) : Nat → List (BitVec 8)
  | 0 => List.replicate 32 0
  | i + 1 => (cpI y i).set i (y.getD i 0)
theorem cpI_length (y : List (BitVec 8)) : ∀ i, (cpI y i).length = 32
  | 0 => rfl
  | i + 1 => by rw [cpI, List.length_set, cpI_length y i]
theorem cpI_at (y : List (BitVec 8)) : ∀ n, n ≤ 32 → ∀ i, i < n → (cpI y n).getD i 0 = y.getD i 0
  | 0, _, i, hi => absurd hi (Nat.not_lt_zero i)
  | n + 1, hn, i, hi => by
    rw [cpI, getD_set (by rw [cpI_length]; omega)]
    by_cases h : i = n
    · rw [if_pos h, h]
    · rw [if_neg h, cpI_at y n (by omega) i (by omega)]
theorem cpI_all (y : List (BitVec 8)) (h : y.length = 32) : cpI y 32 = y :=
  eq_getD (by rw [cpI_length, h]) fun i hi => cpI_at y 32 (Nat.le_refl _) i (by rw [cpI_length] at hi; exact hi)
theorem rkey_ac (ks salt : List (BitVec 8)) (k n : Nat) (x : Option Nat) (ha : ks.length = k) (hx : x = none → k = 0) (hk : k ≤ 512) (hs : salt.length = 16) (h1 : 1 ≤ n) (h2 : n ≤ 4096) :
    AC Tryd.prog 50 [slD 0 k x, .u8s salt, .i64 n] 1 [(0, some ⟨.row .cell, .u8s ks, false⟩), gK] ⟨.u8s (dkF ks salt n), [], []⟩ := by
  have h := rderive_ac ks salt k n x ha hx hk hs h1 h2
  have hl := dkF_length ks salt n
  generalize dkF ks salt n = y at h hl ⊢
  have hy := cpI_all y hl
  have h : AC Tryd.prog 94 [slD 0 k x, .slice 1 [] 0 16 (some 16), .i64 n, .i64 32] 2 [(1, some ⟨.arr 16 .cell, .u8s salt, false⟩), (0, some ⟨.row .cell, .u8s ks, false⟩), gK]
      ⟨.tup [.slice 2 [] 0 32 none, .i64 0], [], [(.row .cell, .u8s y)]⟩ := by
    have := h.arr 1 16
    cases x <;> exact this
  refine acA tab mix Tryd.func50 {} ?_
  repeat first | refine EffG.mk (obA ?_) | refine obA ?_ | refine chkA ?_
  refine callA h [0, 1] ?_
  repeat first | refine EffG.mk (obA ?_) | refine obA ?_ | refine chkA ?_
  refine loopG Nat (fun i => [(6, .ptr 1 []), (7, .slice 2 [] 0 32 none), (9, .ptr 3 []), (10, .i64 i)]) (fun i => [(0, some ⟨.row .cell, .u8s ks, false⟩), (1, some ⟨t32, .u8s (List.replicate 32 0), true⟩), (2, some ⟨.row .cell, .u8s y, true⟩), (3, some ⟨t32, .u8s (cpI y i), true⟩), gK]) 4
    (fun i => i ≤ 32) (fun i => 32 - i) 0 [0, 2, 3, 4] (Nat.zero_le _) viewA ?_
  intro i hi
  have hxi := cpI_length y i
  repeat first | refine EffG.mk (obA ?_) | refine obA ?_ | refine chkA ?_
  refine Br.split (fun h => ?_) (fun h => ?_)
  · have hi : i < 32 := by have := of_decide_eq_true h; omega
    repeat first | refine EffG.mk (obA ?_) | refine obA ?_ | refine chkA ?_
    refine nextA (i + 1) [0, 1, 2, 3] (viewA (h3 := ?_))
    (repeat' (first | exact trivial | refine And.intro ⟨_, rfl, rfl, ?_, id⟩ ?_ | refine And.intro ⟨_, rfl, rfl, ?_, fun _ => rfl⟩ ?_)) <;> first | rfl | (rw [Nat.zero_add]; rfl)
  · obtain rfl : i = 32 := by have := of_decide_eq_false h; omega
    rw [hy]
    repeat first | refine EffG.mk (obA ?_) | refine obA ?_ | refine chkA ?_
    refine retA [0]
end Go.Proofs.YtodkhgofmgaafaaDoor.Av

namespace Go.Proofs.YtodkhgofmgaafaaDoor.Av
open Go
set_option linter.all false
set_option maxRecDepth 3000

/-! the document's answer of layers 1 and 6: small functions -/

theorem with_ac (s k : List (BitVec 8)) (hs : s.length = 16) (hk : k.length = 16) : AC Tryd.prog 153 [.u8s s, .u8s k] 0 [] ⟨.u8s (xorF s k), [], []⟩ := by
  refine ac_of tab mix Tryd.func153 rfl (by kernel_rfl) (by kernel_rfl) (by kernel_rfl) {} ?_
  repeat first | (refine EffG.mk (And.intro ?_ ?_); focus ((repeat' (first | exact trivial | refine And.intro ?_ ?_)) <;> (first | omega | (simp only [hasTy, okP, lenD, D.ren, D.isCell, Option.getD, List.length_set, List.length_take, List.length_drop, List.length_append, List.length_replicate, List.length_map, List.length_cons, List.length_nil, Option.map] <;> omega) | with_reducible assumption | with_reducible rfl | decide); done)) | (refine And.intro ?_ ?_; focus ((repeat' (first | exact trivial | refine And.intro ?_ ?_)) <;> (first | omega | (simp only [hasTy, okP, lenD, D.ren, D.isCell, Option.getD, List.length_set, List.length_take, List.length_drop, List.length_append, List.length_replicate, List.length_map, List.length_cons, List.length_nil, Option.map] <;> omega) | with_reducible assumption | with_reducible rfl | decide); done)) | refine chkG (by kernel_rfl) ?_
  refine loopG Nat (fun n => [(2, .ptr 0 []), (3, .ptr 1 []), (4, .ptr 2 []), (5, .i64 n)]) (fun n => [(0, some ⟨t16, .u8s (xorI s k n), true⟩), (1, some ⟨t16, .u8s k, true⟩), (2, some ⟨t16, .u8s (List.replicate 16 0), true⟩)]) 3
    (fun n => n ≤ 16) (fun n => 16 - n) 0 [0, 1, 2] (Nat.zero_le _) ?_ ?_
  · exact viewG rfl ⟨rfl, rfl, rfl, rfl, trivial⟩ ⟨⟨_, rfl, rfl, rfl, id⟩, ⟨_, rfl, rfl, rfl, id⟩, ⟨_, rfl, rfl, rfl, id⟩, trivial⟩ rfl
  intro n hn
  have hl := xorI_length s k n
  rw [hs] at hl
  repeat first | (refine EffG.mk (And.intro ?_ ?_); focus ((repeat' (first | exact trivial | refine And.intro ?_ ?_)) <;> (first | omega | (simp only [hasTy, okP, lenD, D.ren, D.isCell, Option.getD, List.length_set, List.length_take, List.length_drop, List.length_append, List.length_replicate, List.length_map, List.length_cons, List.length_nil, Option.map] <;> omega) | with_reducible assumption | with_reducible rfl | decide); done)) | (refine And.intro ?_ ?_; focus ((repeat' (first | exact trivial | refine And.intro ?_ ?_)) <;> (first | omega | (simp only [hasTy, okP, lenD, D.ren, D.isCell, Option.getD, List.length_set, List.length_take, List.length_drop, List.length_append, List.length_replicate, List.length_map, List.length_cons, List.length_nil, Option.map] <;> omega) | with_reducible assumption | with_reducible rfl | decide); done)) | refine chkG (by kernel_rfl) ?_
  refine Br.split (fun h => ?_) (fun h => ?_)
  · have hn : n < 16 := by have := of_decide_eq_true h; omega
    repeat first | (refine EffG.mk (And.intro ?_ ?_); focus ((repeat' (first | exact trivial | refine And.intro ?_ ?_)) <;> (first | omega | (simp only [hasTy, okP, lenD, D.ren, D.isCell, Option.getD, List.length_set, List.length_take, List.length_drop, List.length_append, List.length_replicate, List.length_map, List.length_cons, List.length_nil, Option.map] <;> omega) | with_reducible assumption | with_reducible rfl | decide); done)) | (refine And.intro ?_ ?_; focus ((repeat' (first | exact trivial | refine And.intro ?_ ?_)) <;> (first | omega | (simp only [hasTy, okP, lenD, D.ren, D.isCell, Option.getD, List.length_set, List.length_take, List.length_drop, List.length_append, List.length_replicate, List.length_map, List.length_cons, List.length_nil, Option.map] <;> omega) | with_reducible assumption | with_reducible rfl | decide); done)) | refine chkG (by kernel_rfl) ?_
    refine nextG (n + 1) [0, 1, 2] ?_ ?_ ?_
    · omega
    · omega
    · exact viewG rfl ⟨rfl, rfl, rfl, rfl, trivial⟩ ⟨⟨_, rfl, rfl, rfl, id⟩, ⟨_, rfl, rfl, rfl, id⟩, ⟨_, rfl, rfl, rfl, id⟩, trivial⟩ rfl
  · have hn : n = 16 := by have := of_decide_eq_false h; omega
    subst hn
    repeat first | (refine EffG.mk (And.intro ?_ ?_); focus ((repeat' (first | exact trivial | refine And.intro ?_ ?_)) <;> (first | omega | (simp only [hasTy, okP, lenD, D.ren, D.isCell, Option.getD, List.length_set, List.length_take, List.length_drop, List.length_append, List.length_replicate, List.length_map, List.length_cons, List.length_nil, Option.map] <;> omega) | with_reducible assumption | with_reducible rfl | decide); done)) | (refine And.intro ?_ ?_; focus ((repeat' (first | exact trivial | refine And.intro ?_ ?_)) <;> (first | omega | (simp only [hasTy, okP, lenD, D.ren, D.isCell, Option.getD, List.length_set, List.length_take, List.length_drop, List.length_append, List.length_replicate, List.length_map, List.length_cons, List.length_nil, Option.map] <;> omega) | with_reducible assumption | with_reducible rfl | decide); done)) | refine chkG (by kernel_rfl) ?_
    refine retG [] rfl rfl trivial rfl

theorem shift_high (a : BitVec 8) (h : 128 ≤ a.toNat) : shiftF a = (a <<< 1) ^^^ 27 := by
  have : 128 ≤ a.toNat → shiftF a = (a <<< 1) ^^^ 27 := byte_nat (p := fun a => 128 ≤ a.toNat → shiftF a = (a <<< 1) ^^^ 27) (by decide +kernel) a
  exact this h
theorem shift_low (a : BitVec 8) (h : ¬ 128 ≤ a.toNat) : shiftF a = a <<< 1 := by
  have : ¬ 128 ≤ a.toNat → shiftF a = a <<< 1 := byte_nat (p := fun a => ¬ 128 ≤ a.toNat → shiftF a = a <<< 1) (by decide +kernel) a
  exact this h

theorem twice_ac (a : BitVec 8) : AC Tryd.prog 154 [.u8 a] 0 [] ⟨.u8 (shiftF a), [], []⟩ := by
  refine ac_of tab mix Tryd.func154 rfl (by kernel_rfl) (by kernel_rfl) (by kernel_rfl) {} ?_
  repeat first | (refine EffG.mk (And.intro ?_ ?_); focus ((repeat' (first | exact trivial | refine And.intro ?_ ?_)) <;> (first | omega | (simp only [hasTy, okP, lenD, D.ren, D.isCell, Option.getD, List.length_set, List.length_take, List.length_drop, List.length_append, List.length_replicate, List.length_map, List.length_cons, List.length_nil, Option.map] <;> omega) | with_reducible assumption | with_reducible rfl | decide); done)) | (refine And.intro ?_ ?_; focus ((repeat' (first | exact trivial | refine And.intro ?_ ?_)) <;> (first | omega | (simp only [hasTy, okP, lenD, D.ren, D.isCell, Option.getD, List.length_set, List.length_take, List.length_drop, List.length_append, List.length_replicate, List.length_map, List.length_cons, List.length_nil, Option.map] <;> omega) | with_reducible assumption | with_reducible rfl | decide); done)) | refine chkG (by kernel_rfl) ?_
  refine Br.split (fun h => ?_) (fun h => ?_)
  · have h : 128 ≤ a.toNat := by simpa using h
    repeat first | (refine EffG.mk (And.intro ?_ ?_); focus ((repeat' (first | exact trivial | refine And.intro ?_ ?_)) <;> (first | omega | (simp only [hasTy, okP, lenD, D.ren, D.isCell, Option.getD, List.length_set, List.length_take, List.length_drop, List.length_append, List.length_replicate, List.length_map, List.length_cons, List.length_nil, Option.map] <;> omega) | with_reducible assumption | with_reducible rfl | decide); done)) | (refine And.intro ?_ ?_; focus ((repeat' (first | exact trivial | refine And.intro ?_ ?_)) <;> (first | omega | (simp only [hasTy, okP, lenD, D.ren, D.isCell, Option.getD, List.length_set, List.length_take, List.length_drop, List.length_append, List.length_replicate, List.length_map, List.length_cons, List.length_nil, Option.map] <;> omega) | with_reducible assumption | with_reducible rfl | decide); done)) | refine chkG (by kernel_rfl) ?_
    refine retG [] ?_ rfl trivial rfl
    exact congrArg D.u8 (shift_high a h).symm
  · have h : ¬ 128 ≤ a.toNat := by simpa using h
    repeat first | (refine EffG.mk (And.intro ?_ ?_); focus ((repeat' (first | exact trivial | refine And.intro ?_ ?_)) <;> (first | omega | (simp only [hasTy, okP, lenD, D.ren, D.isCell, Option.getD, List.length_set, List.length_take, List.length_drop, List.length_append, List.length_replicate, List.length_map, List.length_cons, List.length_nil, Option.map] <;> omega) | with_reducible assumption | with_reducible rfl | decide); done)) | (refine And.intro ?_ ?_; focus ((repeat' (first | exact trivial | refine And.intro ?_ ?_)) <;> (first | omega | (simp only [hasTy, okP, lenD, D.ren, D.isCell, Option.getD, List.length_set, List.length_take, List.length_drop, List.length_append, List.length_replicate, List.length_map, List.length_cons, List.length_nil, Option.map] <;> omega) | with_reducible assumption | with_reducible rfl | decide); done)) | refine chkG (by kernel_rfl) ?_
    refine retG [] ?_ rfl trivial rfl
    exact congrArg D.u8 (shift_low a h).symm

/-- the code's product of two numbers, as the document multiplies -/
def rm1 (a b : BitVec 8) : Nat → Int
  | 0 => 0
  | n + 1 => if b >>> n &&& 1 = 1 then (BitVec.ofInt 64 (rm1 a b n) ^^^ BitVec.ofInt 64 ((a.toNat : Int) * 2 ^ n)).toInt else rm1 a b n
def rm2 (p : Int) : Nat → Int
  | 0 => p
  | k + 1 => if (BitVec.ofInt 64 (rm2 p k / 2 ^ (14 - k)) &&& BitVec.ofInt 64 1).toInt = 1 then (BitVec.ofInt 64 (rm2 p k) ^^^ BitVec.ofInt 64 (283 * 2 ^ (6 - k))).toInt else rm2 p k
def rmulF (a b : BitVec 8) : BitVec 8 := BitVec.ofInt 8 (rm2 (rm1 a b 8) 7)

theorem cnt64 (n : Nat) (h : n < 100) : (BitVec.ofInt 64 (n : Int)).toNat = n := by
  rw [BitVec.ofInt_natCast, BitVec.toNat_ofNat]; omega
theorem pow_lt (n : Nat) (h : n < 15) : (0 : Int) < 2 ^ n ∧ (2 : Int) ^ n < 32768 := by
  have : ∀ n, n < 15 → (0 : Int) < 2 ^ n ∧ (2 : Int) ^ n < 32768 := by decide
  exact this n h

theorem rmul_ac (a b : BitVec 8) : AC Tryd.prog 160 [.u8 a, .u8 b] 0 [] ⟨.u8 (rmulF a b), [], []⟩ := by
  have ha : a.toNat < 256 := a.isLt
  refine ac_of tab mix Tryd.func160 rfl (by kernel_rfl) (by kernel_rfl) (by kernel_rfl) ⟨[4, 9], []⟩ ?_
  repeat first | (refine EffG.mk (And.intro ?_ ?_); focus ((repeat' (first | exact trivial | refine And.intro ?_ ?_)) <;> (first | omega | (simp only [hasTy, okP, lenD, D.ren, D.isCell, Option.getD, List.length_set, List.length_take, List.length_drop, List.length_append, List.length_replicate, List.length_map, List.length_cons, List.length_nil, Option.map] <;> omega) | with_reducible assumption | with_reducible rfl | decide); done)) | (refine And.intro ?_ ?_; focus ((repeat' (first | exact trivial | refine And.intro ?_ ?_)) <;> (first | omega | (simp only [hasTy, okP, lenD, D.ren, D.isCell, Option.getD, List.length_set, List.length_take, List.length_drop, List.length_append, List.length_replicate, List.length_map, List.length_cons, List.length_nil, Option.map] <;> omega) | with_reducible assumption | with_reducible rfl | decide); done)) | refine chkG (by kernel_rfl) ?_
  refine loopG Nat (fun n => [(0, .u8 a), (1, .u8 b), (5, .i64 (rm1 a b n)), (6, .i64 n)]) (fun _ => []) 0 (fun n => n ≤ 8) (fun n => 8 - n) 0 [] (Nat.zero_le _) ?_ ?_
  · exact viewG rfl ⟨rfl, rfl, rfl, rfl, trivial⟩ trivial rfl
  intro n hn
  repeat first | (refine EffG.mk (And.intro ?_ ?_); focus ((repeat' (first | exact trivial | refine And.intro ?_ ?_)) <;> (first | omega | (simp only [hasTy, okP, lenD, D.ren, D.isCell, Option.getD, List.length_set, List.length_take, List.length_drop, List.length_append, List.length_replicate, List.length_map, List.length_cons, List.length_nil, Option.map] <;> omega) | with_reducible assumption | with_reducible rfl | decide); done)) | (refine And.intro ?_ ?_; focus ((repeat' (first | exact trivial | refine And.intro ?_ ?_)) <;> (first | omega | (simp only [hasTy, okP, lenD, D.ren, D.isCell, Option.getD, List.length_set, List.length_take, List.length_drop, List.length_append, List.length_replicate, List.length_map, List.length_cons, List.length_nil, Option.map] <;> omega) | with_reducible assumption | with_reducible rfl | decide); done)) | refine chkG (by kernel_rfl) ?_
  refine Br.split (fun h => ?_) (fun h => ?_)
  · have hn : n < 8 := by have := of_decide_eq_true h; omega
    have e := cnt64 n (by omega)
    refine joinG Unit (fun _ => [(0, .u8 a), (1, .u8 b), (5, .i64 (rm1 a b (n + 1))), (6, .i64 n)]) (fun _ => []) 0 (fun _ => True) ?_ ?_
    · repeat first | rw [e] | (refine EffG.mk (And.intro ?_ ?_); focus ((repeat' (first | exact trivial | refine And.intro ?_ ?_)) <;> (first | omega | (simp only [hasTy, okP, lenD, D.ren, D.isCell, Option.getD, List.length_set, List.length_take, List.length_drop, List.length_append, List.length_replicate, List.length_map, List.length_cons, List.length_nil, Option.map] <;> omega) | with_reducible assumption | with_reducible rfl | decide); done)) | (refine And.intro ?_ ?_; focus ((repeat' (first | exact trivial | refine And.intro ?_ ?_)) <;> (first | omega | (simp only [hasTy, okP, lenD, D.ren, D.isCell, Option.getD, List.length_set, List.length_take, List.length_drop, List.length_append, List.length_replicate, List.length_map, List.length_cons, List.length_nil, Option.map] <;> omega) | with_reducible assumption | with_reducible rfl | decide); done)) | refine chkG (by kernel_rfl) ?_
      refine Br.split (fun h => ?_) (fun h => ?_)
      · have h1 : b >>> n &&& 1 = 1 := of_decide_eq_true h
        have ⟨p1, p2⟩ := pow_lt n (by omega)
        have p3 : (0 : Int) ≤ (a.toNat : Int) * 2 ^ n := Int.mul_nonneg (by omega) (by omega)
        have p4 : (a.toNat : Int) * 2 ^ n ≤ 255 * 32768 := Int.mul_le_mul (by omega) (by omega) (by omega) (by omega)
        repeat first | rw [e] | (refine EffG.mk (And.intro ?_ ?_); focus (rw [e]; (repeat' (first | exact trivial | refine And.intro ?_ ?_)) <;> (first | omega | (simp only [hasTy, okP, lenD, D.ren, D.isCell, Option.getD, List.length_set, List.length_take, List.length_drop, List.length_append, List.length_replicate, List.length_map, List.length_cons, List.length_nil, Option.map] <;> omega) | with_reducible assumption | with_reducible rfl | decide); done)) | (refine EffG.mk (And.intro ?_ ?_); focus ((repeat' (first | exact trivial | refine And.intro ?_ ?_)) <;> (first | omega | (simp only [hasTy, okP, lenD, D.ren, D.isCell, Option.getD, List.length_set, List.length_take, List.length_drop, List.length_append, List.length_replicate, List.length_map, List.length_cons, List.length_nil, Option.map] <;> omega) | with_reducible assumption | with_reducible rfl | decide); done)) | (refine And.intro ?_ ?_; focus ((repeat' (first | exact trivial | refine And.intro ?_ ?_)) <;> (first | omega | (simp only [hasTy, okP, lenD, D.ren, D.isCell, Option.getD, List.length_set, List.length_take, List.length_drop, List.length_append, List.length_replicate, List.length_map, List.length_cons, List.length_nil, Option.map] <;> omega) | with_reducible assumption | with_reducible rfl | decide); done)) | refine chkG (by kernel_rfl) ?_
        refine meetG () [] trivial (viewG rfl ⟨rfl, rfl, congrArg (fun x => some (D.i64 x)) (if_pos h1).symm, rfl, trivial⟩ trivial rfl)
      · have h1 : ¬ b >>> n &&& 1 = 1 := of_decide_eq_false h
        refine meetG () [] trivial (viewG rfl ⟨rfl, rfl, congrArg (fun x => some (D.i64 x)) (if_neg h1).symm, rfl, trivial⟩ trivial rfl)
    intro _ _
    repeat first | (refine EffG.mk (And.intro ?_ ?_); focus ((repeat' (first | exact trivial | refine And.intro ?_ ?_)) <;> (first | omega | (simp only [hasTy, okP, lenD, D.ren, D.isCell, Option.getD, List.length_set, List.length_take, List.length_drop, List.length_append, List.length_replicate, List.length_map, List.length_cons, List.length_nil, Option.map] <;> omega) | with_reducible assumption | with_reducible rfl | decide); done)) | (refine And.intro ?_ ?_; focus ((repeat' (first | exact trivial | refine And.intro ?_ ?_)) <;> (first | omega | (simp only [hasTy, okP, lenD, D.ren, D.isCell, Option.getD, List.length_set, List.length_take, List.length_drop, List.length_append, List.length_replicate, List.length_map, List.length_cons, List.length_nil, Option.map] <;> omega) | with_reducible assumption | with_reducible rfl | decide); done)) | refine chkG (by kernel_rfl) ?_
    refine nextG (n + 1) [] ?_ ?_ ?_
    · omega
    · omega
    · exact viewG rfl ⟨rfl, rfl, rfl, rfl, trivial⟩ trivial rfl
  have hn : n = 8 := by have := of_decide_eq_false h; omega
  subst hn
  have hr : rmulF a b = BitVec.ofInt 8 (rm2 (rm1 a b 8) 7) := rfl
  rw [hr]
  generalize rm1 a b 8 = p
  repeat first | (refine EffG.mk (And.intro ?_ ?_); focus ((repeat' (first | exact trivial | refine And.intro ?_ ?_)) <;> (first | omega | (simp only [hasTy, okP, lenD, D.ren, D.isCell, Option.getD, List.length_set, List.length_take, List.length_drop, List.length_append, List.length_replicate, List.length_map, List.length_cons, List.length_nil, Option.map] <;> omega) | with_reducible assumption | with_reducible rfl | decide); done)) | (refine And.intro ?_ ?_; focus ((repeat' (first | exact trivial | refine And.intro ?_ ?_)) <;> (first | omega | (simp only [hasTy, okP, lenD, D.ren, D.isCell, Option.getD, List.length_set, List.length_take, List.length_drop, List.length_append, List.length_replicate, List.length_map, List.length_cons, List.length_nil, Option.map] <;> omega) | with_reducible assumption | with_reducible rfl | decide); done)) | refine chkG (by kernel_rfl) ?_
  refine loopG Nat (fun k => [(5, .i64 (rm2 p k)), (7, .i64 (14 - k : Nat))]) (fun _ => []) 0 (fun k => k ≤ 7) (fun k => 7 - k) 0 [] (Nat.zero_le _) ?_ ?_
  · exact viewG rfl ⟨rfl, rfl, trivial⟩ trivial rfl
  intro k hk
  repeat first | (refine EffG.mk (And.intro ?_ ?_); focus ((repeat' (first | exact trivial | refine And.intro ?_ ?_)) <;> (first | omega | (simp only [hasTy, okP, lenD, D.ren, D.isCell, Option.getD, List.length_set, List.length_take, List.length_drop, List.length_append, List.length_replicate, List.length_map, List.length_cons, List.length_nil, Option.map] <;> omega) | with_reducible assumption | with_reducible rfl | decide); done)) | (refine And.intro ?_ ?_; focus ((repeat' (first | exact trivial | refine And.intro ?_ ?_)) <;> (first | omega | (simp only [hasTy, okP, lenD, D.ren, D.isCell, Option.getD, List.length_set, List.length_take, List.length_drop, List.length_append, List.length_replicate, List.length_map, List.length_cons, List.length_nil, Option.map] <;> omega) | with_reducible assumption | with_reducible rfl | decide); done)) | refine chkG (by kernel_rfl) ?_
  refine Br.split (fun h => ?_) (fun h => ?_)
  · have hk : k < 7 := by have := of_decide_eq_true h; omega
    have e := cnt64 (14 - k) (by omega)
    have e2 : ((14 - k : Nat) : Int) - 8 = ((6 - k : Nat) : Int) := by omega
    have e3 := cnt64 (6 - k) (by omega)
    refine joinG Unit (fun _ => [(5, .i64 (rm2 p (k + 1))), (7, .i64 (14 - k : Nat))]) (fun _ => []) 0 (fun _ => True) ?_ ?_
    · repeat first | rw [e] | (refine EffG.mk (And.intro ?_ ?_); focus ((repeat' (first | exact trivial | refine And.intro ?_ ?_)) <;> (first | omega | (simp only [hasTy, okP, lenD, D.ren, D.isCell, Option.getD, List.length_set, List.length_take, List.length_drop, List.length_append, List.length_replicate, List.length_map, List.length_cons, List.length_nil, Option.map] <;> omega) | with_reducible assumption | with_reducible rfl | decide); done)) | (refine And.intro ?_ ?_; focus ((repeat' (first | exact trivial | refine And.intro ?_ ?_)) <;> (first | omega | (simp only [hasTy, okP, lenD, D.ren, D.isCell, Option.getD, List.length_set, List.length_take, List.length_drop, List.length_append, List.length_replicate, List.length_map, List.length_cons, List.length_nil, Option.map] <;> omega) | with_reducible assumption | with_reducible rfl | decide); done)) | refine chkG (by kernel_rfl) ?_
      refine Br.split (fun h => ?_) (fun h => ?_)
      · have h1 : (BitVec.ofInt 64 (rm2 p k / 2 ^ (14 - k)) &&& BitVec.ofInt 64 1).toInt = 1 := of_decide_eq_true h
        have ⟨p1, p2⟩ := pow_lt (6 - k) (by omega)
        repeat first | rw [e2] | rw [e3] | (refine EffG.mk (And.intro ?_ ?_); focus (rw [e3]; (repeat' (first | exact trivial | refine And.intro ?_ ?_)) <;> (first | omega | (simp only [hasTy, okP, lenD, D.ren, D.isCell, Option.getD, List.length_set, List.length_take, List.length_drop, List.length_append, List.length_replicate, List.length_map, List.length_cons, List.length_nil, Option.map] <;> omega) | with_reducible assumption | with_reducible rfl | decide); done)) | (refine EffG.mk (And.intro ?_ ?_); focus ((repeat' (first | exact trivial | refine And.intro ?_ ?_)) <;> (first | omega | (simp only [hasTy, okP, lenD, D.ren, D.isCell, Option.getD, List.length_set, List.length_take, List.length_drop, List.length_append, List.length_replicate, List.length_map, List.length_cons, List.length_nil, Option.map] <;> omega) | with_reducible assumption | with_reducible rfl | decide); done)) | (refine And.intro ?_ ?_; focus ((repeat' (first | exact trivial | refine And.intro ?_ ?_)) <;> (first | omega | (simp only [hasTy, okP, lenD, D.ren, D.isCell, Option.getD, List.length_set, List.length_take, List.length_drop, List.length_append, List.length_replicate, List.length_map, List.length_cons, List.length_nil, Option.map] <;> omega) | with_reducible assumption | with_reducible rfl | decide); done)) | refine chkG (by kernel_rfl) ?_
        refine meetG () [] trivial (viewG rfl ⟨congrArg (fun x => some (D.i64 x)) (if_pos h1).symm, rfl, trivial⟩ trivial rfl)
      · have h1 : ¬ (BitVec.ofInt 64 (rm2 p k / 2 ^ (14 - k)) &&& BitVec.ofInt 64 1).toInt = 1 := of_decide_eq_false h
        refine meetG () [] trivial (viewG rfl ⟨congrArg (fun x => some (D.i64 x)) (if_neg h1).symm, rfl, trivial⟩ trivial rfl)
    intro _ _
    repeat first | (refine EffG.mk (And.intro ?_ ?_); focus ((repeat' (first | exact trivial | refine And.intro ?_ ?_)) <;> (first | omega | (simp only [hasTy, okP, lenD, D.ren, D.isCell, Option.getD, List.length_set, List.length_take, List.length_drop, List.length_append, List.length_replicate, List.length_map, List.length_cons, List.length_nil, Option.map] <;> omega) | with_reducible assumption | with_reducible rfl | decide); done)) | (refine And.intro ?_ ?_; focus ((repeat' (first | exact trivial | refine And.intro ?_ ?_)) <;> (first | omega | (simp only [hasTy, okP, lenD, D.ren, D.isCell, Option.getD, List.length_set, List.length_take, List.length_drop, List.length_append, List.length_replicate, List.length_map, List.length_cons, List.length_nil, Option.map] <;> omega) | with_reducible assumption | with_reducible rfl | decide); done)) | refine chkG (by kernel_rfl) ?_
    refine nextG (k + 1) [] ?_ ?_ ?_
    · omega
    · omega
    · exact viewG rfl ⟨rfl, congrArg (fun x => some (D.i64 x)) (by omega), trivial⟩ trivial rfl
  have hk : k = 7 := by have := of_decide_eq_false h; omega
  subst hk
  repeat first | (refine EffG.mk (And.intro ?_ ?_); focus ((repeat' (first | exact trivial | refine And.intro ?_ ?_)) <;> (first | omega | (simp only [hasTy, okP, lenD, D.ren, D.isCell, Option.getD, List.length_set, List.length_take, List.length_drop, List.length_append, List.length_replicate, List.length_map, List.length_cons, List.length_nil, Option.map] <;> omega) | with_reducible assumption | with_reducible rfl | decide); done)) | (refine And.intro ?_ ?_; focus ((repeat' (first | exact trivial | refine And.intro ?_ ?_)) <;> (first | omega | (simp only [hasTy, okP, lenD, D.ren, D.isCell, Option.getD, List.length_set, List.length_take, List.length_drop, List.length_append, List.length_replicate, List.length_map, List.length_cons, List.length_nil, Option.map] <;> omega) | with_reducible assumption | with_reducible rfl | decide); done)) | refine chkG (by kernel_rfl) ?_
  refine retG [] rfl rfl trivial rfl

def rndJ : Nat → BitVec 8
  | 0 => 1
  | m + 1 => mulF (rndJ m) 2
def rpowF (a : BitVec 8) : Nat → BitVec 8
  | 0 => 1
  | n + 1 => rmulF (rpowF a n) a

/-- for a base other than nothing, and a small exponent -/
theorem rpow_ac (a : BitVec 8) (ha : a ≠ 0) (n : Nat) (h1 : n < 255) : AC Tryd.prog 152 [.u8 a, .i64 n] 0 [] ⟨.u8 (rpowF a n), [], []⟩ := by
  have hrem : Int.tmod (n : Int) 255 = (n : Int) := Int.tmod_eq_of_lt (by omega) (by omega)
  refine ac_of tab mix Tryd.func152 rfl (by kernel_rfl) (by kernel_rfl) (by kernel_rfl) {} ?_
  repeat first | (refine EffG.mk (And.intro ?_ ?_); focus ((repeat' (first | exact trivial | refine And.intro ?_ ?_)) <;> (first | omega | (simp only [hasTy, okP, lenD, D.ren, D.isCell, Option.getD, List.length_set, List.length_take, List.length_drop, List.length_append, List.length_replicate, List.length_map, List.length_cons, List.length_nil, Option.map] <;> omega) | with_reducible assumption | with_reducible rfl | decide); done)) | (refine And.intro ?_ ?_; focus ((repeat' (first | exact trivial | refine And.intro ?_ ?_)) <;> (first | omega | (simp only [hasTy, okP, lenD, D.ren, D.isCell, Option.getD, List.length_set, List.length_take, List.length_drop, List.length_append, List.length_replicate, List.length_map, List.length_cons, List.length_nil, Option.map] <;> omega) | with_reducible assumption | with_reducible rfl | decide); done)) | refine chkG (by kernel_rfl) ?_
  refine Br.no (decide_eq_false ha) ?_
  repeat first | rw [hrem] | (refine EffG.mk (And.intro ?_ ?_); focus ((repeat' (first | exact trivial | refine And.intro ?_ ?_)) <;> (first | omega | (simp only [hasTy, okP, lenD, D.ren, D.isCell, Option.getD, List.length_set, List.length_take, List.length_drop, List.length_append, List.length_replicate, List.length_map, List.length_cons, List.length_nil, Option.map] <;> omega) | with_reducible assumption | with_reducible rfl | decide); done)) | (refine And.intro ?_ ?_; focus ((repeat' (first | exact trivial | refine And.intro ?_ ?_)) <;> (first | omega | (simp only [hasTy, okP, lenD, D.ren, D.isCell, Option.getD, List.length_set, List.length_take, List.length_drop, List.length_append, List.length_replicate, List.length_map, List.length_cons, List.length_nil, Option.map] <;> omega) | with_reducible assumption | with_reducible rfl | decide); done)) | refine chkG (by kernel_rfl) ?_
  refine Br.no (decide_eq_false (by omega)) ?_
  repeat first | (refine EffG.mk (And.intro ?_ ?_); focus ((repeat' (first | exact trivial | refine And.intro ?_ ?_)) <;> (first | omega | (simp only [hasTy, okP, lenD, D.ren, D.isCell, Option.getD, List.length_set, List.length_take, List.length_drop, List.length_append, List.length_replicate, List.length_map, List.length_cons, List.length_nil, Option.map] <;> omega) | with_reducible assumption | with_reducible rfl | decide); done)) | (refine And.intro ?_ ?_; focus ((repeat' (first | exact trivial | refine And.intro ?_ ?_)) <;> (first | omega | (simp only [hasTy, okP, lenD, D.ren, D.isCell, Option.getD, List.length_set, List.length_take, List.length_drop, List.length_append, List.length_replicate, List.length_map, List.length_cons, List.length_nil, Option.map] <;> omega) | with_reducible assumption | with_reducible rfl | decide); done)) | refine chkG (by kernel_rfl) ?_
  refine loopG Nat (fun i => [(0, .u8 a), (1, .i64 n), (5, .u8 (rpowF a i)), (6, .i64 i)]) (fun _ => []) 0 (fun i => i ≤ n) (fun i => n - i) 0 [] (Nat.zero_le _) ?_ ?_
  · exact viewG rfl ⟨rfl, rfl, rfl, rfl, trivial⟩ trivial rfl
  intro i hi
  repeat first | (refine EffG.mk (And.intro ?_ ?_); focus ((repeat' (first | exact trivial | refine And.intro ?_ ?_)) <;> (first | omega | (simp only [hasTy, okP, lenD, D.ren, D.isCell, Option.getD, List.length_set, List.length_take, List.length_drop, List.length_append, List.length_replicate, List.length_map, List.length_cons, List.length_nil, Option.map] <;> omega) | with_reducible assumption | with_reducible rfl | decide); done)) | (refine And.intro ?_ ?_; focus ((repeat' (first | exact trivial | refine And.intro ?_ ?_)) <;> (first | omega | (simp only [hasTy, okP, lenD, D.ren, D.isCell, Option.getD, List.length_set, List.length_take, List.length_drop, List.length_append, List.length_replicate, List.length_map, List.length_cons, List.length_nil, Option.map] <;> omega) | with_reducible assumption | with_reducible rfl | decide); done)) | refine chkG (by kernel_rfl) ?_
  refine Br.split (fun h => ?_) (fun h => ?_)
  · have hi : i < n := by have := of_decide_eq_true h; omega
    repeat first | (refine EffG.mk (And.intro ?_ ?_); focus ((repeat' (first | exact trivial | refine And.intro ?_ ?_)) <;> (first | omega | (simp only [hasTy, okP, lenD, D.ren, D.isCell, Option.getD, List.length_set, List.length_take, List.length_drop, List.length_append, List.length_replicate, List.length_map, List.length_cons, List.length_nil, Option.map] <;> omega) | with_reducible assumption | with_reducible rfl | decide); done)) | (refine And.intro ?_ ?_; focus ((repeat' (first | exact trivial | refine And.intro ?_ ?_)) <;> (first | omega | (simp only [hasTy, okP, lenD, D.ren, D.isCell, Option.getD, List.length_set, List.length_take, List.length_drop, List.length_append, List.length_replicate, List.length_map, List.length_cons, List.length_nil, Option.map] <;> omega) | with_reducible assumption | with_reducible rfl | decide); done)) | refine chkG (by kernel_rfl) ?_
    refine callG (rmul_ac _ _) [] rfl rfl trivial rfl rfl ?_
    repeat first | (refine EffG.mk (And.intro ?_ ?_); focus ((repeat' (first | exact trivial | refine And.intro ?_ ?_)) <;> (first | omega | (simp only [hasTy, okP, lenD, D.ren, D.isCell, Option.getD, List.length_set, List.length_take, List.length_drop, List.length_append, List.length_replicate, List.length_map, List.length_cons, List.length_nil, Option.map] <;> omega) | with_reducible assumption | with_reducible rfl | decide); done)) | (refine And.intro ?_ ?_; focus ((repeat' (first | exact trivial | refine And.intro ?_ ?_)) <;> (first | omega | (simp only [hasTy, okP, lenD, D.ren, D.isCell, Option.getD, List.length_set, List.length_take, List.length_drop, List.length_append, List.length_replicate, List.length_map, List.length_cons, List.length_nil, Option.map] <;> omega) | with_reducible assumption | with_reducible rfl | decide); done)) | refine chkG (by kernel_rfl) ?_
    refine nextG (i + 1) [] ?_ ?_ ?_
    · omega
    · omega
    · exact viewG rfl ⟨rfl, rfl, rfl, rfl, trivial⟩ trivial rfl
  have hi : i = n := by have := of_decide_eq_false h; omega
  subst hi
  repeat first | (refine EffG.mk (And.intro ?_ ?_); focus ((repeat' (first | exact trivial | refine And.intro ?_ ?_)) <;> (first | omega | (simp only [hasTy, okP, lenD, D.ren, D.isCell, Option.getD, List.length_set, List.length_take, List.length_drop, List.length_append, List.length_replicate, List.length_map, List.length_cons, List.length_nil, Option.map] <;> omega) | with_reducible assumption | with_reducible rfl | decide); done)) | (refine And.intro ?_ ?_; focus ((repeat' (first | exact trivial | refine And.intro ?_ ?_)) <;> (first | omega | (simp only [hasTy, okP, lenD, D.ren, D.isCell, Option.getD, List.length_set, List.length_take, List.length_drop, List.length_append, List.length_replicate, List.length_map, List.length_cons, List.length_nil, Option.map] <;> omega) | with_reducible assumption | with_reducible rfl | decide); done)) | refine chkG (by kernel_rfl) ?_
  refine retG [] rfl rfl trivial rfl
theorem rpow_rnd : ∀ m, m < 7 → rpowF 2 m = rndJ m := by decide +kernel

end Go.Proofs.YtodkhgofmgaafaaDoor.Av

namespace Go.Proofs.YtodkhgofmgaafaaDoor.Av
open Go
set_option linter.all false
set_option maxRecDepth 3000

/-! the document's round keys -/
abbrev t256 : Ty := .arr 256 .cell
abbrev gB : Mem := [(gid 1, some ⟨t256, .u8s boxL, false⟩)]
abbrev t60 : Ty := .arr 60 (.arr 4 .cell)

theorem gx1 (b : BitVec 8) : (0 ≤ (b.toNat : Int) ∧ (b.toNat : Int) < ((256 : Nat) : Int)) := by
  have := b.isLt
  omega
theorem gx2 (b : BitVec 8) : ((b.toNat : Int).toNat < boxL.length ∧ True) := by
  have := b.isLt
  rw [boxL_length, Int.toNat_natCast]
  exact ⟨by omega, trivial⟩

def rtF (ws : List (List (BitVec 8))) (i : Nat) : List (BitVec 8) :=
  let t := ws.getD (i - 1) []
  if i % 8 = 0 then [sboxF (t.getD 1 0) ^^^ rpowF 2 (i / 8 - 1), sboxF (t.getD 2 0), sboxF (t.getD 3 0), sboxF (t.getD 0 0)]
  else if i % 8 = 4 then [sboxF (t.getD 0 0), sboxF (t.getD 1 0), sboxF (t.getD 2 0), sboxF (t.getD 3 0)] else t
def rkI (ws : List (List (BitVec 8))) (i : Nat) (t : List (BitVec 8)) : Nat → List (List (BitVec 8))
  | 0 => ws
  | k + 1 => (rkI ws i t k).set i (((rkI ws i t k).getD i []).set k (((rkI ws i t k).getD (i - 8) []).getD k 0 ^^^ t.getD k 0))
def rwI (key : List (BitVec 8)) : Nat → List (List (BitVec 8))
  | 0 => List.replicate 60 (List.replicate 4 0)
  | i + 1 => if i < 8 then (rwI key i).set i [key.getD (4 * i) 0, key.getD (4 * i + 1) 0, key.getD (4 * i + 2) 0, key.getD (4 * i + 3) 0]
    else rkI (rwI key i) i (rtF (rwI key i) i) 4
def roK (ws o : List (List (BitVec 8))) (i : Nat) : Nat → List (List (BitVec 8))
  | 0 => o
  | k + 1 => (roK ws o i k).set (i / 4) (((roK ws o i k).getD (i / 4) []).set (4 * (i % 4) + k) ((ws.getD i []).getD k 0))
def roI (ws : List (List (BitVec 8))) : Nat → List (List (BitVec 8))
  | 0 => List.replicate 15 (List.replicate 16 0)
  | i + 1 => roK ws (roI ws i) i 4
def rschF (key : List (BitVec 8)) : List (List (BitVec 8)) := roI (rwI key 60) 60

theorem rtF_length {ws : List (List (BitVec 8))} (h : Rows 60 4 ws) (i : Nat) (hi : i < 60) : (rtF ws i).length = 4 := by
  unfold rtF
  simp only []
  split
  · rfl
  · split
    · rfl
    · exact h.get (by omega)
theorem rkI_rows {ws : List (List (BitVec 8))} (h : Rows 60 4 ws) (i : Nat) (hi : i < 60) (t : List (BitVec 8)) : ∀ k, Rows 60 4 (rkI ws i t k)
  | 0 => h
  | k + 1 => (rkI_rows h i hi t k).set i (by rw [List.length_set]; exact (rkI_rows h i hi t k).get hi)
theorem rwI_rows (key : List (BitVec 8)) : ∀ i, i ≤ 60 → Rows 60 4 (rwI key i)
  | 0, _ => Rows.rep 60 4
  | i + 1, h => by
    have ih := rwI_rows key i (by omega)
    rw [rwI]
    split
    · exact ih.set i rfl
    · exact rkI_rows ih i (by omega) _ 4
theorem roK_rows {o : List (List (BitVec 8))} (ws : List (List (BitVec 8))) (h : Rows 15 16 o) (i : Nat) (hi : i < 60) : ∀ k, Rows 15 16 (roK ws o i k)
  | 0 => h
  | k + 1 => (roK_rows ws h i hi k).set _ (by rw [List.length_set]; exact (roK_rows ws h i hi k).get (by omega))
theorem roI_rows (ws : List (List (BitVec 8))) : ∀ i, i ≤ 60 → Rows 15 16 (roI ws i)
  | 0, _ => Rows.rep 15 16
  | i + 1, h => by rw [roI]; exact roK_rows ws (roI_rows ws i (by omega)) i (by omega) 4

theorem rsch_ac (key : List (BitVec 8)) (hk : key.length = 32) : AC Tryd.prog 127 [.u8s key] 0 gB ⟨.node ((rschF key).map .u8s), [], []⟩ := by
  refine ac_of tab mix Tryd.func127 rfl (by kernel_rfl) (by kernel_rfl) (by kernel_rfl) ⟨[12], []⟩ ?_
  repeat first | (refine EffG.mk (And.intro ?_ ?_); focus ((repeat' (first | exact trivial | refine And.intro ?_ ?_)) <;> (first | omega | (simp only [hasTy, okP, lenD, D.ren, D.isCell, Option.getD, List.length_set, List.length_take, List.length_drop, List.length_append, List.length_replicate, List.length_map, List.length_cons, List.length_nil, Option.map] <;> omega) | with_reducible assumption | with_reducible rfl | decide); done)) | (refine And.intro ?_ ?_; focus ((repeat' (first | exact trivial | refine And.intro ?_ ?_)) <;> (first | omega | (simp only [hasTy, okP, lenD, D.ren, D.isCell, Option.getD, List.length_set, List.length_take, List.length_drop, List.length_append, List.length_replicate, List.length_map, List.length_cons, List.length_nil, Option.map] <;> omega) | with_reducible assumption | with_reducible rfl | decide); done)) | refine chkG (by kernel_rfl) ?_
  refine loopG Nat (fun i => [(1, .ptr 0 []), (2, .ptr 1 []), (3, .ptr 2 []), (4, .i64 i)])
    (fun i => [(0, some ⟨t32, .u8s key, true⟩), (1, some ⟨t15, .node (List.replicate 15 (.u8s (List.replicate 16 0))), true⟩), (2, some ⟨t60, .node ((rwI key i).map .u8s), true⟩), (gid 1, some ⟨t256, .u8s boxL, false⟩)]) 3
    (fun i => i ≤ 60) (fun i => 60 - i) 0 [0, 1, 2] (Nat.zero_le _) ?_ ?_
  · exact viewG rfl ⟨rfl, rfl, rfl, rfl, trivial⟩ ⟨⟨_, rfl, rfl, rfl, id⟩, ⟨_, rfl, rfl, rfl, id⟩, ⟨_, rfl, rfl, rfl, id⟩, ⟨_, rfl, rfl, rfl, id⟩, trivial⟩ rfl
  intro i hi
  have hr := rwI_rows key i hi
  have hl : ((rwI key i).map D.u8s).length = 60 := by rw [List.length_map, hr.1]
  repeat first | (refine EffG.mk (And.intro ?_ ?_); focus ((repeat' (first | exact trivial | refine And.intro ?_ ?_)) <;> (first | omega | (simp only [hasTy, okP, lenD, D.ren, D.isCell, Option.getD, List.length_set, List.length_take, List.length_drop, List.length_append, List.length_replicate, List.length_map, List.length_cons, List.length_nil, Option.map] <;> omega) | with_reducible assumption | with_reducible rfl | decide); done)) | (refine And.intro ?_ ?_; focus ((repeat' (first | exact trivial | refine And.intro ?_ ?_)) <;> (first | omega | (simp only [hasTy, okP, lenD, D.ren, D.isCell, Option.getD, List.length_set, List.length_take, List.length_drop, List.length_append, List.length_replicate, List.length_map, List.length_cons, List.length_nil, Option.map] <;> omega) | with_reducible assumption | with_reducible rfl | decide); done)) | refine chkG (by kernel_rfl) ?_
  refine Br.split (fun h => ?_) (fun h => ?_)
  · have hi : i < 60 := by have := of_decide_eq_true h; omega
    repeat first | (refine EffG.mk (And.intro ?_ ?_); focus ((repeat' (first | exact trivial | refine And.intro ?_ ?_)) <;> (first | omega | (simp only [hasTy, okP, lenD, D.ren, D.isCell, Option.getD, List.length_set, List.length_take, List.length_drop, List.length_append, List.length_replicate, List.length_map, List.length_cons, List.length_nil, Option.map] <;> omega) | with_reducible assumption | with_reducible rfl | decide); done)) | (refine And.intro ?_ ?_; focus ((repeat' (first | exact trivial | refine And.intro ?_ ?_)) <;> (first | omega | (simp only [hasTy, okP, lenD, D.ren, D.isCell, Option.getD, List.length_set, List.length_take, List.length_drop, List.length_append, List.length_replicate, List.length_map, List.length_cons, List.length_nil, Option.map] <;> omega) | with_reducible assumption | with_reducible rfl | decide); done)) | refine chkG (by kernel_rfl) ?_
    refine Br.split (fun h => ?_) (fun h => ?_)
    · have h8 : i < 8 := by have := of_decide_eq_true h; omega
      repeat first | (refine EffG.mk (And.intro ?_ ?_); focus ((repeat' (first | exact trivial | refine And.intro ?_ ?_)) <;> (first | omega | (simp only [hasTy, okP, lenD, D.ren, D.isCell, Option.getD, List.length_set, List.length_take, List.length_drop, List.length_append, List.length_replicate, List.length_map, List.length_cons, List.length_nil, Option.map] <;> omega) | with_reducible assumption | with_reducible rfl | decide); done)) | (refine And.intro ?_ ?_; focus ((repeat' (first | exact trivial | refine And.intro ?_ ?_)) <;> (first | omega | (simp only [hasTy, okP, lenD, D.ren, D.isCell, Option.getD, List.length_set, List.length_take, List.length_drop, List.length_append, List.length_replicate, List.length_map, List.length_cons, List.length_nil, Option.map] <;> omega) | with_reducible assumption | with_reducible rfl | decide); done)) | refine chkG (by kernel_rfl) ?_
      refine nextG (i + 1) [0, 1, 2] ?_ ?_ ?_
      · omega
      · omega
      · refine viewG rfl ⟨rfl, rfl, rfl, rfl, trivial⟩ ⟨⟨_, rfl, rfl, rfl, id⟩, ⟨_, rfl, rfl, rfl, id⟩, ⟨_, rfl, rfl, ?_, id⟩, ⟨_, rfl, rfl, rfl, id⟩, trivial⟩ rfl
        rw [ren_rows, rwI, if_pos h8, List.map_set]
        rfl
    · have h8 : ¬ i < 8 := by have := of_decide_eq_false h; omega
      have q1 : (i : Int) - 1 = ((i - 1 : Nat) : Int) := by omega
      have ht0 : ((rwI key i).getD (i - 1) []).length = 4 := hr.get (by omega)
      have htl := rtF_length hr i hi
      have q4 : Int.tmod (i : Int) 8 = ((i % 8 : Nat) : Int) := (Int.ofNat_tmod i 8).symm
      have q5 : Int.tdiv (i : Int) 8 = ((i / 8 : Nat) : Int) := (Int.ofNat_tdiv i 8).symm
      repeat first | rw [q1] | (rw [nthD_u8s (l := rwI key i)]; rotate_left; (rw [hr.1]; omega)) | rw [Int.toNat_natCast (i - 1)] | (refine EffG.mk (And.intro ?_ ?_); focus ((repeat' (first | exact trivial | refine And.intro ?_ ?_)) <;> (first | omega | (simp only [hasTy, okP, lenD, D.ren, D.isCell, Option.getD, List.length_set, List.length_take, List.length_drop, List.length_append, List.length_replicate, List.length_map, List.length_cons, List.length_nil, Option.map] <;> omega) | with_reducible assumption | with_reducible rfl | decide); done)) | (refine And.intro ?_ ?_; focus ((repeat' (first | exact trivial | refine And.intro ?_ ?_)) <;> (first | omega | (simp only [hasTy, okP, lenD, D.ren, D.isCell, Option.getD, List.length_set, List.length_take, List.length_drop, List.length_append, List.length_replicate, List.length_map, List.length_cons, List.length_nil, Option.map] <;> omega) | with_reducible assumption | with_reducible rfl | decide); done)) | refine chkG (by kernel_rfl) ?_
      refine joinG Unit (fun _ => [(1, .ptr 0 []), (2, .ptr 1 []), (3, .ptr 2 []), (4, .i64 i), (5, .ptr 3 [])])
        (fun _ => [(0, some ⟨t32, .u8s key, true⟩), (1, some ⟨t15, .node (List.replicate 15 (.u8s (List.replicate 16 0))), true⟩), (2, some ⟨t60, .node ((rwI key i).map .u8s), true⟩), (3, some ⟨t4, .u8s (rtF (rwI key i) i), true⟩), (gid 1, some ⟨t256, .u8s boxL, false⟩)]) 4 (fun _ => True) ?_ ?_
      · repeat first | rw [q4] | (refine EffG.mk (And.intro ?_ ?_); focus ((repeat' (first | exact trivial | refine And.intro ?_ ?_)) <;> (first | omega | (simp only [hasTy, okP, lenD, D.ren, D.isCell, Option.getD, List.length_set, List.length_take, List.length_drop, List.length_append, List.length_replicate, List.length_map, List.length_cons, List.length_nil, Option.map] <;> omega) | with_reducible assumption | with_reducible rfl | decide); done)) | (refine And.intro ?_ ?_; focus ((repeat' (first | exact trivial | refine And.intro ?_ ?_)) <;> (first | omega | (simp only [hasTy, okP, lenD, D.ren, D.isCell, Option.getD, List.length_set, List.length_take, List.length_drop, List.length_append, List.length_replicate, List.length_map, List.length_cons, List.length_nil, Option.map] <;> omega) | with_reducible assumption | with_reducible rfl | decide); done)) | refine chkG (by kernel_rfl) ?_
        refine Br.split (fun h0 => ?_) (fun h0 => ?_)
        · have h0 : i % 8 = 0 := by have := of_decide_eq_true h0; omega
          have q6 : ((i / 8 : Nat) : Int) - 1 = ((i / 8 - 1 : Nat) : Int) := by omega
          repeat first | rw [q5] | rw [q6] | refine EffG.mk (And.intro (gx1 _) ?_) | refine EffG.mk (And.intro (gx2 _) ?_) | (refine EffG.mk (And.intro ?_ ?_); focus ((repeat' (first | exact trivial | refine And.intro ?_ ?_)) <;> (first | omega | (simp only [hasTy, okP, lenD, D.ren, D.isCell, Option.getD, List.length_set, List.length_take, List.length_drop, List.length_append, List.length_replicate, List.length_map, List.length_cons, List.length_nil, Option.map] <;> omega) | with_reducible assumption | with_reducible rfl | decide); done)) | (refine And.intro ?_ ?_; focus ((repeat' (first | exact trivial | refine And.intro ?_ ?_)) <;> (first | omega | (simp only [hasTy, okP, lenD, D.ren, D.isCell, Option.getD, List.length_set, List.length_take, List.length_drop, List.length_append, List.length_replicate, List.length_map, List.length_cons, List.length_nil, Option.map] <;> omega) | with_reducible assumption | with_reducible rfl | decide); done)) | refine chkG (by kernel_rfl) ?_
          refine callG (rpow_ac 2 (by decide) (i / 8 - 1) (by omega)) [] rfl rfl trivial rfl rfl ?_
          repeat first | refine EffG.mk (And.intro (gx1 _) ?_) | refine EffG.mk (And.intro (gx2 _) ?_) | (refine EffG.mk (And.intro ?_ ?_); focus ((repeat' (first | exact trivial | refine And.intro ?_ ?_)) <;> (first | omega | (simp only [hasTy, okP, lenD, D.ren, D.isCell, Option.getD, List.length_set, List.length_take, List.length_drop, List.length_append, List.length_replicate, List.length_map, List.length_cons, List.length_nil, Option.map] <;> omega) | with_reducible assumption | with_reducible rfl | decide); done)) | (refine And.intro ?_ ?_; focus ((repeat' (first | exact trivial | refine And.intro ?_ ?_)) <;> (first | omega | (simp only [hasTy, okP, lenD, D.ren, D.isCell, Option.getD, List.length_set, List.length_take, List.length_drop, List.length_append, List.length_replicate, List.length_map, List.length_cons, List.length_nil, Option.map] <;> omega) | with_reducible assumption | with_reducible rfl | decide); done)) | refine chkG (by kernel_rfl) ?_
          refine meetG () [0, 1, 2, 3] trivial (viewG rfl ⟨rfl, rfl, rfl, rfl, rfl, trivial⟩ ⟨⟨_, rfl, rfl, rfl, id⟩, ⟨_, rfl, rfl, rfl, id⟩, ⟨_, rfl, rfl, (ren_rows _ _).symm, id⟩, ⟨_, rfl, rfl, congrArg D.u8s ?_, id⟩, ⟨_, rfl, rfl, rfl, id⟩, trivial⟩ rfl)
          unfold rtF
          rw [if_pos h0]
          rfl
        · have h0 : ¬ i % 8 = 0 := by have := of_decide_eq_false h0; omega
          repeat first | rw [q4] | (refine EffG.mk (And.intro ?_ ?_); focus ((repeat' (first | exact trivial | refine And.intro ?_ ?_)) <;> (first | omega | (simp only [hasTy, okP, lenD, D.ren, D.isCell, Option.getD, List.length_set, List.length_take, List.length_drop, List.length_append, List.length_replicate, List.length_map, List.length_cons, List.length_nil, Option.map] <;> omega) | with_reducible assumption | with_reducible rfl | decide); done)) | (refine And.intro ?_ ?_; focus ((repeat' (first | exact trivial | refine And.intro ?_ ?_)) <;> (first | omega | (simp only [hasTy, okP, lenD, D.ren, D.isCell, Option.getD, List.length_set, List.length_take, List.length_drop, List.length_append, List.length_replicate, List.length_map, List.length_cons, List.length_nil, Option.map] <;> omega) | with_reducible assumption | with_reducible rfl | decide); done)) | refine chkG (by kernel_rfl) ?_
          refine Br.split (fun h4 => ?_) (fun h4 => ?_)
          · have h4 : i % 8 = 4 := by have := of_decide_eq_true h4; omega
            repeat first | refine EffG.mk (And.intro (gx1 _) ?_) | refine EffG.mk (And.intro (gx2 _) ?_) | (refine EffG.mk (And.intro ?_ ?_); focus ((repeat' (first | exact trivial | refine And.intro ?_ ?_)) <;> (first | omega | (simp only [hasTy, okP, lenD, D.ren, D.isCell, Option.getD, List.length_set, List.length_take, List.length_drop, List.length_append, List.length_replicate, List.length_map, List.length_cons, List.length_nil, Option.map] <;> omega) | with_reducible assumption | with_reducible rfl | decide); done)) | (refine And.intro ?_ ?_; focus ((repeat' (first | exact trivial | refine And.intro ?_ ?_)) <;> (first | omega | (simp only [hasTy, okP, lenD, D.ren, D.isCell, Option.getD, List.length_set, List.length_take, List.length_drop, List.length_append, List.length_replicate, List.length_map, List.length_cons, List.length_nil, Option.map] <;> omega) | with_reducible assumption | with_reducible rfl | decide); done)) | refine chkG (by kernel_rfl) ?_
            refine meetG () [0, 1, 2, 3] trivial (viewG rfl ⟨rfl, rfl, rfl, rfl, rfl, trivial⟩ ⟨⟨_, rfl, rfl, rfl, id⟩, ⟨_, rfl, rfl, rfl, id⟩, ⟨_, rfl, rfl, (ren_rows _ _).symm, id⟩, ⟨_, rfl, rfl, congrArg D.u8s ?_, id⟩, ⟨_, rfl, rfl, rfl, id⟩, trivial⟩ rfl)
            unfold rtF
            rw [if_neg h0, if_pos h4]
            rfl
          · have h4 : ¬ i % 8 = 4 := by have := of_decide_eq_false h4; omega
            refine meetG () [0, 1, 2, 3] trivial (viewG rfl ⟨rfl, rfl, rfl, rfl, rfl, trivial⟩ ⟨⟨_, rfl, rfl, rfl, id⟩, ⟨_, rfl, rfl, rfl, id⟩, ⟨_, rfl, rfl, (ren_rows _ _).symm, id⟩, ⟨_, rfl, rfl, congrArg D.u8s ?_, id⟩, ⟨_, rfl, rfl, rfl, id⟩, trivial⟩ rfl)
            unfold rtF
            rw [if_neg h0, if_neg h4]
      intro _ _
      have hnext : rwI key (i + 1) = rkI (rwI key i) i (rtF (rwI key i) i) 4 := by rw [rwI, if_neg h8]
      generalize rtF (rwI key i) i = t at htl hnext ⊢
      generalize rwI key i = ws at hr hl hnext ⊢
      repeat first | (refine EffG.mk (And.intro ?_ ?_); focus ((repeat' (first | exact trivial | refine And.intro ?_ ?_)) <;> (first | omega | (simp only [hasTy, okP, lenD, D.ren, D.isCell, Option.getD, List.length_set, List.length_take, List.length_drop, List.length_append, List.length_replicate, List.length_map, List.length_cons, List.length_nil, Option.map] <;> omega) | with_reducible assumption | with_reducible rfl | decide); done)) | (refine And.intro ?_ ?_; focus ((repeat' (first | exact trivial | refine And.intro ?_ ?_)) <;> (first | omega | (simp only [hasTy, okP, lenD, D.ren, D.isCell, Option.getD, List.length_set, List.length_take, List.length_drop, List.length_append, List.length_replicate, List.length_map, List.length_cons, List.length_nil, Option.map] <;> omega) | with_reducible assumption | with_reducible rfl | decide); done)) | refine chkG (by kernel_rfl) ?_
      refine loopG Nat (fun k => [(1, .ptr 0 []), (2, .ptr 1 []), (3, .ptr 2 []), (4, .i64 i), (5, .ptr 3 []), (6, .i64 k)])
        (fun k => [(0, some ⟨t32, .u8s key, true⟩), (1, some ⟨t15, .node (List.replicate 15 (.u8s (List.replicate 16 0))), true⟩), (2, some ⟨t60, .node ((rkI ws i t k).map .u8s), true⟩), (3, some ⟨t4, .u8s t, true⟩), (gid 1, some ⟨t256, .u8s boxL, false⟩)]) 4
        (fun k => k ≤ 4) (fun k => 4 - k) 0 [0, 1, 2, 3] (Nat.zero_le _) ?_ ?_
      · exact viewG rfl ⟨rfl, rfl, rfl, rfl, rfl, rfl, trivial⟩ ⟨⟨_, rfl, rfl, rfl, id⟩, ⟨_, rfl, rfl, rfl, id⟩, ⟨_, rfl, rfl, (ren_rows _ _).symm, id⟩, ⟨_, rfl, rfl, rfl, id⟩, ⟨_, rfl, rfl, rfl, id⟩, trivial⟩ rfl
      intro k hk4
      have hv := rkI_rows hr i hi t k
      repeat first | (refine EffG.mk (And.intro ?_ ?_); focus ((repeat' (first | exact trivial | refine And.intro ?_ ?_)) <;> (first | omega | (simp only [hasTy, okP, lenD, D.ren, D.isCell, Option.getD, List.length_set, List.length_take, List.length_drop, List.length_append, List.length_replicate, List.length_map, List.length_cons, List.length_nil, Option.map] <;> omega) | with_reducible assumption | with_reducible rfl | decide); done)) | (refine And.intro ?_ ?_; focus ((repeat' (first | exact trivial | refine And.intro ?_ ?_)) <;> (first | omega | (simp only [hasTy, okP, lenD, D.ren, D.isCell, Option.getD, List.length_set, List.length_take, List.length_drop, List.length_append, List.length_replicate, List.length_map, List.length_cons, List.length_nil, Option.map] <;> omega) | with_reducible assumption | with_reducible rfl | decide); done)) | refine chkG (by kernel_rfl) ?_
      refine Br.split (fun h => ?_) (fun h => ?_)
      · have hk4 : k < 4 := by have := of_decide_eq_true h; omega
        have p1 : (i : Int) - 8 = ((i - 8 : Nat) : Int) := by omega
        have hv1 : (rkI ws i t k).length = 60 := hv.1
        have hv2 : ((rkI ws i t k).getD (i - 8) []).length = 4 := hv.get (by omega)
        have hv3 : ((rkI ws i t k).getD i []).length = 4 := hv.get hi
        repeat first | rw [p1] | rw [Int.toNat_natCast] | (refine EffG.mk (And.intro ?_ ?_); focus ((repeat' (first | exact trivial | refine And.intro ?_ ?_)) <;> (first | omega | (simp only [hasTy, okP, lenD, D.ren, D.isCell, Option.getD, List.length_set, List.length_take, List.length_drop, List.length_append, List.length_replicate, List.length_map, List.length_cons, List.length_nil, Option.map] <;> omega) | with_reducible assumption | with_reducible rfl | decide); done)) | (refine And.intro ?_ ?_; focus ((repeat' (first | exact trivial | refine And.intro ?_ ?_)) <;> (first | omega | (simp only [hasTy, okP, lenD, D.ren, D.isCell, Option.getD, List.length_set, List.length_take, List.length_drop, List.length_append, List.length_replicate, List.length_map, List.length_cons, List.length_nil, Option.map] <;> omega) | with_reducible assumption | with_reducible rfl | decide); done)) | refine chkG (by kernel_rfl) ?_
        refine loadG (.u8 (((rkI ws i t k).getD (i - 8) []).getD k 0)) rfl rfl rfl rfl rfl (getP_row k (by omega)) (okP_row (by omega) (by omega)) ?_
        repeat first | rw [Int.toNat_natCast] | (refine EffG.mk (And.intro ?_ ?_); focus ((repeat' (first | exact trivial | refine And.intro ?_ ?_)) <;> (first | omega | (simp only [hasTy, okP, lenD, D.ren, D.isCell, Option.getD, List.length_set, List.length_take, List.length_drop, List.length_append, List.length_replicate, List.length_map, List.length_cons, List.length_nil, Option.map] <;> omega) | with_reducible assumption | with_reducible rfl | decide); done)) | (refine And.intro ?_ ?_; focus ((repeat' (first | exact trivial | refine And.intro ?_ ?_)) <;> (first | omega | (simp only [hasTy, okP, lenD, D.ren, D.isCell, Option.getD, List.length_set, List.length_take, List.length_drop, List.length_append, List.length_replicate, List.length_map, List.length_cons, List.length_nil, Option.map] <;> omega) | with_reducible assumption | with_reducible rfl | decide); done)) | refine chkG (by kernel_rfl) ?_
        refine storeG (.node ((rkI ws i t (k + 1)).map .u8s)) rfl rfl rfl rfl rfl rfl rfl (getP_row k (by omega)) (setP_row k _ (by omega)) (okP_row (by omega) (by omega)) rfl ?_
        repeat first | (refine EffG.mk (And.intro ?_ ?_); focus ((repeat' (first | exact trivial | refine And.intro ?_ ?_)) <;> (first | omega | (simp only [hasTy, okP, lenD, D.ren, D.isCell, Option.getD, List.length_set, List.length_take, List.length_drop, List.length_append, List.length_replicate, List.length_map, List.length_cons, List.length_nil, Option.map] <;> omega) | with_reducible assumption | with_reducible rfl | decide); done)) | (refine And.intro ?_ ?_; focus ((repeat' (first | exact trivial | refine And.intro ?_ ?_)) <;> (first | omega | (simp only [hasTy, okP, lenD, D.ren, D.isCell, Option.getD, List.length_set, List.length_take, List.length_drop, List.length_append, List.length_replicate, List.length_map, List.length_cons, List.length_nil, Option.map] <;> omega) | with_reducible assumption | with_reducible rfl | decide); done)) | refine chkG (by kernel_rfl) ?_
        refine nextG (k + 1) [0, 1, 2, 3] ?_ ?_ ?_
        · omega
        · omega
        · exact viewG rfl ⟨rfl, rfl, rfl, rfl, rfl, rfl, trivial⟩ ⟨⟨_, rfl, rfl, rfl, id⟩, ⟨_, rfl, rfl, rfl, id⟩, ⟨_, rfl, rfl, (ren_rows _ _).symm, id⟩, ⟨_, rfl, rfl, rfl, id⟩, ⟨_, rfl, rfl, rfl, id⟩, trivial⟩ rfl
      · have hk4 : k = 4 := by have := of_decide_eq_false h; omega
        subst hk4
        repeat first | (refine EffG.mk (And.intro ?_ ?_); focus ((repeat' (first | exact trivial | refine And.intro ?_ ?_)) <;> (first | omega | (simp only [hasTy, okP, lenD, D.ren, D.isCell, Option.getD, List.length_set, List.length_take, List.length_drop, List.length_append, List.length_replicate, List.length_map, List.length_cons, List.length_nil, Option.map] <;> omega) | with_reducible assumption | with_reducible rfl | decide); done)) | (refine And.intro ?_ ?_; focus ((repeat' (first | exact trivial | refine And.intro ?_ ?_)) <;> (first | omega | (simp only [hasTy, okP, lenD, D.ren, D.isCell, Option.getD, List.length_set, List.length_take, List.length_drop, List.length_append, List.length_replicate, List.length_map, List.length_cons, List.length_nil, Option.map] <;> omega) | with_reducible assumption | with_reducible rfl | decide); done)) | refine chkG (by kernel_rfl) ?_
        refine nextG (i + 1) [0, 1, 2] ?_ ?_ ?_
        · omega
        · omega
        · refine viewG rfl ⟨rfl, rfl, rfl, rfl, trivial⟩ ⟨⟨_, rfl, rfl, rfl, id⟩, ⟨_, rfl, rfl, rfl, id⟩, ⟨_, rfl, rfl, ?_, id⟩, ⟨_, rfl, rfl, rfl, id⟩, trivial⟩ rfl
          rw [ren_rows, hnext]
  · have hi : i = 60 := by have := of_decide_eq_false h; omega
    subst hi
    have hout : rschF key = roI (rwI key 60) 60 := rfl
    rw [hout]
    generalize rwI key 60 = ws at hr hl ⊢
    repeat first | (refine EffG.mk (And.intro ?_ ?_); focus ((repeat' (first | exact trivial | refine And.intro ?_ ?_)) <;> (first | omega | (simp only [hasTy, okP, lenD, D.ren, D.isCell, Option.getD, List.length_set, List.length_take, List.length_drop, List.length_append, List.length_replicate, List.length_map, List.length_cons, List.length_nil, Option.map] <;> omega) | with_reducible assumption | with_reducible rfl | decide); done)) | (refine And.intro ?_ ?_; focus ((repeat' (first | exact trivial | refine And.intro ?_ ?_)) <;> (first | omega | (simp only [hasTy, okP, lenD, D.ren, D.isCell, Option.getD, List.length_set, List.length_take, List.length_drop, List.length_append, List.length_replicate, List.length_map, List.length_cons, List.length_nil, Option.map] <;> omega) | with_reducible assumption | with_reducible rfl | decide); done)) | refine chkG (by kernel_rfl) ?_
    refine loopG Nat (fun i => [(2, .ptr 1 []), (3, .ptr 2 []), (7, .ptr 3 []), (8, .i64 i)])
      (fun i => [(1, some ⟨t15, .node (List.replicate 15 (.u8s (List.replicate 16 0))), true⟩), (2, some ⟨t60, .node (ws.map .u8s), true⟩), (3, some ⟨t15, .node ((roI ws i).map .u8s), true⟩), (gid 1, some ⟨t256, .u8s boxL, false⟩)]) 4
      (fun i => i ≤ 60) (fun i => 60 - i) 0 [0, 1, 2, 3] (Nat.zero_le _) ?_ ?_
    · exact viewG rfl ⟨rfl, rfl, rfl, rfl, trivial⟩ ⟨⟨_, rfl, rfl, rfl, id⟩, ⟨_, rfl, rfl, (ren_rows _ _).symm, id⟩, ⟨_, rfl, rfl, rfl, id⟩, ⟨_, rfl, rfl, rfl, id⟩, trivial⟩ rfl
    intro i hi
    have hq := roI_rows ws i hi
    repeat first | (refine EffG.mk (And.intro ?_ ?_); focus ((repeat' (first | exact trivial | refine And.intro ?_ ?_)) <;> (first | omega | (simp only [hasTy, okP, lenD, D.ren, D.isCell, Option.getD, List.length_set, List.length_take, List.length_drop, List.length_append, List.length_replicate, List.length_map, List.length_cons, List.length_nil, Option.map] <;> omega) | with_reducible assumption | with_reducible rfl | decide); done)) | (refine And.intro ?_ ?_; focus ((repeat' (first | exact trivial | refine And.intro ?_ ?_)) <;> (first | omega | (simp only [hasTy, okP, lenD, D.ren, D.isCell, Option.getD, List.length_set, List.length_take, List.length_drop, List.length_append, List.length_replicate, List.length_map, List.length_cons, List.length_nil, Option.map] <;> omega) | with_reducible assumption | with_reducible rfl | decide); done)) | refine chkG (by kernel_rfl) ?_
    refine Br.split (fun h => ?_) (fun h => ?_)
    · have hi : i < 60 := by have := of_decide_eq_true h; omega
      repeat first | (refine EffG.mk (And.intro ?_ ?_); focus ((repeat' (first | exact trivial | refine And.intro ?_ ?_)) <;> (first | omega | (simp only [hasTy, okP, lenD, D.ren, D.isCell, Option.getD, List.length_set, List.length_take, List.length_drop, List.length_append, List.length_replicate, List.length_map, List.length_cons, List.length_nil, Option.map] <;> omega) | with_reducible assumption | with_reducible rfl | decide); done)) | (refine And.intro ?_ ?_; focus ((repeat' (first | exact trivial | refine And.intro ?_ ?_)) <;> (first | omega | (simp only [hasTy, okP, lenD, D.ren, D.isCell, Option.getD, List.length_set, List.length_take, List.length_drop, List.length_append, List.length_replicate, List.length_map, List.length_cons, List.length_nil, Option.map] <;> omega) | with_reducible assumption | with_reducible rfl | decide); done)) | refine chkG (by kernel_rfl) ?_
      refine loopG Nat (fun k => [(2, .ptr 1 []), (3, .ptr 2 []), (7, .ptr 3 []), (8, .i64 i), (9, .i64 k)])
        (fun k => [(1, some ⟨t15, .node (List.replicate 15 (.u8s (List.replicate 16 0))), true⟩), (2, some ⟨t60, .node (ws.map .u8s), true⟩), (3, some ⟨t15, .node ((roK ws (roI ws i) i k).map .u8s), true⟩), (gid 1, some ⟨t256, .u8s boxL, false⟩)]) 4
        (fun k => k ≤ 4) (fun k => 4 - k) 0 [0, 1, 2, 3] (Nat.zero_le _) ?_ ?_
      · exact viewG rfl ⟨rfl, rfl, rfl, rfl, rfl, trivial⟩ ⟨⟨_, rfl, rfl, rfl, id⟩, ⟨_, rfl, rfl, (ren_rows _ _).symm, id⟩, ⟨_, rfl, rfl, (ren_rows _ _).symm, id⟩, ⟨_, rfl, rfl, rfl, id⟩, trivial⟩ rfl
      intro k hk4
      have hv := roK_rows ws hq i hi k
      repeat first | (refine EffG.mk (And.intro ?_ ?_); focus ((repeat' (first | exact trivial | refine And.intro ?_ ?_)) <;> (first | omega | (simp only [hasTy, okP, lenD, D.ren, D.isCell, Option.getD, List.length_set, List.length_take, List.length_drop, List.length_append, List.length_replicate, List.length_map, List.length_cons, List.length_nil, Option.map] <;> omega) | with_reducible assumption | with_reducible rfl | decide); done)) | (refine And.intro ?_ ?_; focus ((repeat' (first | exact trivial | refine And.intro ?_ ?_)) <;> (first | omega | (simp only [hasTy, okP, lenD, D.ren, D.isCell, Option.getD, List.length_set, List.length_take, List.length_drop, List.length_append, List.length_replicate, List.length_map, List.length_cons, List.length_nil, Option.map] <;> omega) | with_reducible assumption | with_reducible rfl | decide); done)) | refine chkG (by kernel_rfl) ?_
      refine Br.split (fun h => ?_) (fun h => ?_)
      · have hk4 : k < 4 := by have := of_decide_eq_true h; omega
        have q4 : Int.tmod (i : Int) 4 = ((i % 4 : Nat) : Int) := (Int.ofNat_tmod i 4).symm
        have q5 : Int.tdiv (i : Int) 4 = ((i / 4 : Nat) : Int) := (Int.ofNat_tdiv i 4).symm
        have q6 : 4 * ((i % 4 : Nat) : Int) + (k : Int) = ((4 * (i % 4) + k : Nat) : Int) := by omega
        have hr1 : ws.length = 60 := hr.1
        have hr2 : (ws.getD i []).length = 4 := hr.get hi
        have hv1 : (roK ws (roI ws i) i k).length = 15 := hv.1
        have hv2 : ((roK ws (roI ws i) i k).getD (i / 4) []).length = 16 := hv.get (by omega)
        repeat first | rw [q4] | rw [q5] | rw [q6] | rw [Int.toNat_natCast] | (refine EffG.mk (And.intro ?_ ?_); focus (rw [q5]; (repeat' (first | exact trivial | refine And.intro ?_ ?_)) <;> (first | omega | (simp only [hasTy, okP, lenD, D.ren, D.isCell, Option.getD, List.length_set, List.length_take, List.length_drop, List.length_append, List.length_replicate, List.length_map, List.length_cons, List.length_nil, Option.map] <;> omega) | with_reducible assumption | with_reducible rfl | decide); done)) | (refine EffG.mk (And.intro ?_ ?_); focus ((repeat' (first | exact trivial | refine And.intro ?_ ?_)) <;> (first | omega | (simp only [hasTy, okP, lenD, D.ren, D.isCell, Option.getD, List.length_set, List.length_take, List.length_drop, List.length_append, List.length_replicate, List.length_map, List.length_cons, List.length_nil, Option.map] <;> omega) | with_reducible assumption | with_reducible rfl | decide); done)) | (refine And.intro ?_ ?_; focus ((repeat' (first | exact trivial | refine And.intro ?_ ?_)) <;> (first | omega | (simp only [hasTy, okP, lenD, D.ren, D.isCell, Option.getD, List.length_set, List.length_take, List.length_drop, List.length_append, List.length_replicate, List.length_map, List.length_cons, List.length_nil, Option.map] <;> omega) | with_reducible assumption | with_reducible rfl | decide); done)) | refine chkG (by kernel_rfl) ?_
        refine loadG (.u8 ((ws.getD i []).getD k 0)) rfl rfl rfl rfl rfl (getP_row k (by omega)) (okP_row (by omega) (by omega)) ?_
        repeat first | rw [Int.toNat_natCast] | (refine EffG.mk (And.intro ?_ ?_); focus ((repeat' (first | exact trivial | refine And.intro ?_ ?_)) <;> (first | omega | (simp only [hasTy, okP, lenD, D.ren, D.isCell, Option.getD, List.length_set, List.length_take, List.length_drop, List.length_append, List.length_replicate, List.length_map, List.length_cons, List.length_nil, Option.map] <;> omega) | with_reducible assumption | with_reducible rfl | decide); done)) | (refine And.intro ?_ ?_; focus ((repeat' (first | exact trivial | refine And.intro ?_ ?_)) <;> (first | omega | (simp only [hasTy, okP, lenD, D.ren, D.isCell, Option.getD, List.length_set, List.length_take, List.length_drop, List.length_append, List.length_replicate, List.length_map, List.length_cons, List.length_nil, Option.map] <;> omega) | with_reducible assumption | with_reducible rfl | decide); done)) | refine chkG (by kernel_rfl) ?_
        refine storeG (.node ((roK ws (roI ws i) i (k + 1)).map .u8s)) rfl rfl rfl rfl rfl rfl rfl (getP_row (4 * (i % 4) + k) (by omega)) (setP_row (4 * (i % 4) + k) _ (by omega)) (okP_row (by omega) (by omega)) rfl ?_
        repeat first | (refine EffG.mk (And.intro ?_ ?_); focus ((repeat' (first | exact trivial | refine And.intro ?_ ?_)) <;> (first | omega | (simp only [hasTy, okP, lenD, D.ren, D.isCell, Option.getD, List.length_set, List.length_take, List.length_drop, List.length_append, List.length_replicate, List.length_map, List.length_cons, List.length_nil, Option.map] <;> omega) | with_reducible assumption | with_reducible rfl | decide); done)) | (refine And.intro ?_ ?_; focus ((repeat' (first | exact trivial | refine And.intro ?_ ?_)) <;> (first | omega | (simp only [hasTy, okP, lenD, D.ren, D.isCell, Option.getD, List.length_set, List.length_take, List.length_drop, List.length_append, List.length_replicate, List.length_map, List.length_cons, List.length_nil, Option.map] <;> omega) | with_reducible assumption | with_reducible rfl | decide); done)) | refine chkG (by kernel_rfl) ?_
        refine nextG (k + 1) [0, 1, 2, 3] ?_ ?_ ?_
        · omega
        · omega
        · exact viewG rfl ⟨rfl, rfl, rfl, rfl, rfl, trivial⟩ ⟨⟨_, rfl, rfl, rfl, id⟩, ⟨_, rfl, rfl, (ren_rows _ _).symm, id⟩, ⟨_, rfl, rfl, (ren_rows _ _).symm, id⟩, ⟨_, rfl, rfl, rfl, id⟩, trivial⟩ rfl
      · have hk4 : k = 4 := by have := of_decide_eq_false h; omega
        subst hk4
        repeat first | (refine EffG.mk (And.intro ?_ ?_); focus ((repeat' (first | exact trivial | refine And.intro ?_ ?_)) <;> (first | omega | (simp only [hasTy, okP, lenD, D.ren, D.isCell, Option.getD, List.length_set, List.length_take, List.length_drop, List.length_append, List.length_replicate, List.length_map, List.length_cons, List.length_nil, Option.map] <;> omega) | with_reducible assumption | with_reducible rfl | decide); done)) | (refine And.intro ?_ ?_; focus ((repeat' (first | exact trivial | refine And.intro ?_ ?_)) <;> (first | omega | (simp only [hasTy, okP, lenD, D.ren, D.isCell, Option.getD, List.length_set, List.length_take, List.length_drop, List.length_append, List.length_replicate, List.length_map, List.length_cons, List.length_nil, Option.map] <;> omega) | with_reducible assumption | with_reducible rfl | decide); done)) | refine chkG (by kernel_rfl) ?_
        refine nextG (i + 1) [0, 1, 2, 3] ?_ ?_ ?_
        · omega
        · omega
        · refine viewG rfl ⟨rfl, rfl, rfl, rfl, trivial⟩ ⟨⟨_, rfl, rfl, rfl, id⟩, ⟨_, rfl, rfl, (ren_rows _ _).symm, id⟩, ⟨_, rfl, rfl, ?_, id⟩, ⟨_, rfl, rfl, rfl, id⟩, trivial⟩ rfl
          rw [ren_rows, roI]
    · have hi : i = 60 := by have := of_decide_eq_false h; omega
      subst hi
      generalize roI ws 60 = o at hq ⊢
      repeat first | (refine EffG.mk (And.intro ?_ ?_); focus ((repeat' (first | exact trivial | refine And.intro ?_ ?_)) <;> (first | omega | (simp only [hasTy, okP, lenD, D.ren, D.isCell, Option.getD, List.length_set, List.length_take, List.length_drop, List.length_append, List.length_replicate, List.length_map, List.length_cons, List.length_nil, Option.map] <;> omega) | with_reducible assumption | with_reducible rfl | decide); done)) | (refine And.intro ?_ ?_; focus ((repeat' (first | exact trivial | refine And.intro ?_ ?_)) <;> (first | omega | (simp only [hasTy, okP, lenD, D.ren, D.isCell, Option.getD, List.length_set, List.length_take, List.length_drop, List.length_append, List.length_replicate, List.length_map, List.length_cons, List.length_nil, Option.map] <;> omega) | with_reducible assumption | with_reducible rfl | decide); done)) | refine chkG (by kernel_rfl) ?_
      refine EffG.mk (And.intro ⟨trivial, hq.ty⟩ ?_)
      repeat first | (refine EffG.mk (And.intro ?_ ?_); focus ((repeat' (first | exact trivial | refine And.intro ?_ ?_)) <;> (first | omega | (simp only [hasTy, okP, lenD, D.ren, D.isCell, Option.getD, List.length_set, List.length_take, List.length_drop, List.length_append, List.length_replicate, List.length_map, List.length_cons, List.length_nil, Option.map] <;> omega) | with_reducible assumption | with_reducible rfl | decide); done)) | (refine And.intro ?_ ?_; focus ((repeat' (first | exact trivial | refine And.intro ?_ ?_)) <;> (first | omega | (simp only [hasTy, okP, lenD, D.ren, D.isCell, Option.getD, List.length_set, List.length_take, List.length_drop, List.length_append, List.length_replicate, List.length_map, List.length_cons, List.length_nil, Option.map] <;> omega) | with_reducible assumption | with_reducible rfl | decide); done)) | refine chkG (by kernel_rfl) ?_
      refine retG [] ?_ rfl ⟨⟨_, rfl, rfl, rfl, id⟩, trivial⟩ rfl
      exact congrArg D.node (rens_u8s _ _).symm
end Go.Proofs.YtodkhgofmgaafaaDoor.Av

namespace Go.Proofs.YtodkhgofmgaafaaDoor.Av
open Go
set_option linter.all false
set_option maxRecDepth 3000

/-! what the round keys are, with no program in sight -/

def rndI : Nat → BitVec 8
  | 0 => 1
  | m + 1 => mulF (rndI m) 2

theorem schedI_round (key : List (BitVec 8)) : ∀ n, (schedI key n).2 = rndI ((n + 7) / 8)
  | 0 => rfl
  | n + 1 => by
    show (if n % 8 = 0 then mulF (schedI key n).2 2 else (schedI key n).2) = _
    rw [schedI_round key n]
    by_cases h : n % 8 = 0
    · rw [if_pos h, show (n + 1 + 7) / 8 = (n + 7) / 8 + 1 by omega]; rfl
    · rw [if_neg h, show (n + 1 + 7) / 8 = (n + 7) / 8 by omega]

theorem putI_low (f w : List (BitVec 8)) (n : Nat) (hf : 32 + 4 * n + 4 ≤ f.length) : ∀ k, k ≤ 4 → ∀ i, i < 32 + 4 * n → (putI f w n k).getD i 0 = f.getD i 0
  | 0, _, _, _ => rfl
  | k + 1, hk, i, hi => by
    rw [putI, getD_set (by rw [putI_length]; omega), if_neg (by omega)]
    exact putI_low f w n hf k (by omega) i hi

theorem putI_new (f w : List (BitVec 8)) (n : Nat) (hf : 32 + 4 * n + 4 ≤ f.length) : ∀ k, k ≤ 4 → ∀ j, j < k → (putI f w n k).getD (32 + 4 * n + j) 0 = f.getD (4 * n + j) 0 ^^^ w.getD j 0
  | 0, _, j, hj => by omega
  | k + 1, hk, j, hj => by
    rw [putI, getD_set (by rw [putI_length]; omega)]
    by_cases h : j = k
    · subst h
      rw [if_pos rfl, putI_low f w n hf j (by omega) (4 * n + j) (by omega)]
    · rw [if_neg (by omega)]
      exact putI_new f w n hf k (by omega) j (by omega)

section
variable (key : List (BitVec 8)) (hk : key.length = 32)
include hk
theorem sched_low (n : Nat) (hn : n < 52) (i : Nat) (hi : i < 32 + 4 * n) : (schedI key (n + 1)).1.getD i 0 = (schedI key n).1.getD i 0 :=
  putI_low _ _ _ (by rw [schedI_length key hk]; omega) 4 (Nat.le_refl _) i hi

theorem sched_stay (n i : Nat) (hi : i < 32 + 4 * n) : ∀ d, n + d ≤ 52 → (schedI key (n + d)).1.getD i 0 = (schedI key n).1.getD i 0
  | 0, _ => rfl
  | d + 1, h => by
    rw [← Nat.add_assoc, sched_low key hk (n + d) (by omega) i (by omega)]
    exact sched_stay n i hi d (by omega)

theorem sched_at (n i : Nat) (hn : n ≤ 52) (hi : i < 32 + 4 * n) : (schedI key 52).1.getD i 0 = (schedI key n).1.getD i 0 := by
  have := sched_stay key hk n i hi (52 - n) (by omega)
  rwa [show n + (52 - n) = 52 by omega] at this

theorem flat_key (i : Nat) (hi : i < 32) : (schedI key 52).1.getD i 0 = key.getD i 0 := by
  rw [sched_at key hk 0 i (by omega) (by omega)]
  show (List.take 0 (List.replicate 240 0) ++ List.take 32 (List.drop 0 key) ++ List.drop (0 + 32) (List.replicate 240 0)).getD i 0 = _
  rw [List.take_zero, List.nil_append, List.drop_zero, getD_append_left (by rw [List.length_take, hk]; omega), getD_take hi]

theorem flat_word (n j : Nat) (hn : n < 52) (hj : j < 4) : (schedI key 52).1.getD (32 + 4 * n + j) 0 = (schedI key 52).1.getD (4 * n + j) 0 ^^^ (wordF (schedI key n).1 (schedI key n).2 n).getD j 0 := by
  rw [sched_at key hk (n + 1) (32 + 4 * n + j) (by omega) (by omega), sched_at key hk n (4 * n + j) (by omega) (by omega)]
  exact putI_new _ _ _ (by rw [schedI_length key hk]; omega) 4 (Nat.le_refl _) j hj

theorem flat_w (n j : Nat) (hn : n < 52) (hj : j < 4) : (((schedI key n).1.drop (28 + 4 * n)).take 4).getD j 0 = (schedI key 52).1.getD (28 + 4 * n + j) 0 := by
  rw [getD_take hj, getD_drop, sched_at key hk n _ (by omega) (by omega)]
end

def pwF (m : Nat) : BitVec 8 := if (2 : BitVec 8) = 0 ∧ (m : Int) ≠ 0 then 0 else powF 2 (m : Int)
theorem rnd_pow : ∀ m, m < 7 → rndI m = pwF m := by decide +kernel

def want1 (A : List (BitVec 8)) (i : Nat) : BitVec 8 :=
  if i / 4 % 8 = 4 then A.getD (i - 32) 0 ^^^ sboxF (A.getD (i - 4) 0) else A.getD (i - 32) 0 ^^^ A.getD (i - 4) 0
def want0 (A : List (BitVec 8)) (i : Nat) : BitVec 8 := A.getD (i - 32) 0 ^^^ sboxF (A.getD (4 * (i / 4 - 1) + (i + 1) % 4) 0)
def wantF (A : List (BitVec 8)) (i : Nat) : BitVec 8 :=
  if i / 4 % 8 = 0 then (if i % 4 = 0 then want0 A i ^^^ pwF (i / 4 / 8 - 1) else want0 A i) else want1 A i

theorem keys_law (key : List (BitVec 8)) (hk : key.length = 32) (i : Nat) (h1 : 32 ≤ i) (h2 : i < 240) : (schedI key 52).1.getD i 0 = wantF (schedI key 52).1 i := by
  obtain ⟨n, j, hj, rfl⟩ : ∃ n j, j < 4 ∧ i = 32 + 4 * n + j := ⟨(i - 32) / 4, (i - 32) % 4, by omega, by omega⟩
  have hn : n < 52 := by omega
  have w0 := flat_w key hk n 0 hn (by omega)
  have w1 := flat_w key hk n 1 hn (by omega)
  have w2 := flat_w key hk n 2 hn (by omega)
  have w3 := flat_w key hk n 3 hn (by omega)
  rw [flat_word key hk n j hn hj, schedI_round]
  have e1 : (32 + 4 * n + j) / 4 = 8 + n := by omega
  have e2 : 32 + 4 * n + j - 32 = 4 * n + j := by omega
  have e3 : (8 + n) % 8 = n % 8 := by omega
  have e4 : 32 + 4 * n + j - 4 = 28 + 4 * n + j := by omega
  have e5 : (32 + 4 * n + j) % 4 = j := by omega
  have e6 : (8 + n) / 8 - 1 = n / 8 := by omega
  have e7 : 4 * (8 + n - 1) + (32 + 4 * n + j + 1) % 4 = 28 + 4 * n + (j + 1) % 4 := by omega
  have e8 : n % 8 = 0 → (n + 7) / 8 = n / 8 := by omega
  simp only [wantF, want0, want1, e1, e2, e3, e4, e5, e6, e7]
  unfold wordF
  simp only [w0, w1, w2, w3]
  by_cases h0 : n % 8 = 0
  · rw [if_pos h0, if_pos h0, e8 h0, rnd_pow (n / 8) (by omega)]
    rcases (by omega : j = 0 ∨ j = 1 ∨ j = 2 ∨ j = 3) with rfl | rfl | rfl | rfl
    · rw [if_pos rfl]
      generalize (schedI key 52).1 = fl
      exact (BitVec.xor_assoc _ _ _).symm
    all_goals (generalize (schedI key 52).1 = fl; rfl)
  · rw [if_neg h0, if_neg h0]
    by_cases h4 : n % 8 = 4
    · rw [if_pos h4, if_pos h4]
      rcases (by omega : j = 0 ∨ j = 1 ∨ j = 2 ∨ j = 3) with rfl | rfl | rfl | rfl
      all_goals (generalize (schedI key 52).1 = fl; rfl)
    · rw [if_neg h4, if_neg h4, flat_w key hk n j hn hj]

theorem outK_at (fl : List (BitVec 8)) : ∀ n, n ≤ 15 → ∀ j, j < n → (outK fl n).getD j [] = (fl.drop (16 * j)).take 16
  | 0, _, j, hj => by omega
  | n + 1, hn, j, hj => by
    rw [outK, getD_set (by rw [outK_length]; omega)]
    by_cases h : j = n
    · rw [if_pos h, h]
    · rw [if_neg h]
      exact outK_at fl n (by omega) j (by omega)

theorem keys_at (key : List (BitVec 8)) (i : Nat) (h : i < 240) : ((schedF key).getD (i / 16) []).getD (i % 16) 0 = (schedI key 52).1.getD i 0 := by
  unfold schedF
  rw [outK_at _ 15 (Nat.le_refl _) (i / 16) (by omega), getD_take (by omega), getD_drop, show 16 * (i / 16) + i % 16 = i by omega]

def allI (ks : List (List (BitVec 8))) : Nat → List (BitVec 8)
  | 0 => List.replicate 240 0
  | n + 1 => (allI ks n).set n ((ks.getD (n / 16) []).getD (n % 16) 0)
theorem allI_length (ks : List (List (BitVec 8))) : ∀ n, (allI ks n).length = 240
  | 0 => List.length_replicate ..
  | n + 1 => by rw [allI, List.length_set, allI_length ks n]
theorem allI_at (ks : List (List (BitVec 8))) : ∀ n, n ≤ 240 → ∀ i, i < n → (allI ks n).getD i 0 = (ks.getD (i / 16) []).getD (i % 16) 0
  | 0, _, i, hi => by omega
  | n + 1, hn, i, hi => by
    rw [allI, getD_set (by rw [allI_length]; omega)]
    by_cases h : i = n
    · rw [if_pos h, h]
    · rw [if_neg h]
      exact allI_at ks n (by omega) i (by omega)
theorem ext_getD {l r : List (BitVec 8)} (h : l.length = r.length) (hi : ∀ i, i < l.length → l.getD i 0 = r.getD i 0) : l = r := by
  refine List.ext_getElem h fun i h1 h2 => ?_
  have := hi i h1
  rwa [List.getD_eq_getElem?_getD, List.getD_eq_getElem?_getD, List.getElem?_eq_getElem h1, List.getElem?_eq_getElem h2] at this
theorem all_flat (key : List (BitVec 8)) (hk : key.length = 32) : allI (schedF key) 240 = (schedI key 52).1 := by
  refine ext_getD (by rw [allI_length, schedI_length key hk]) fun i hi => ?_
  rw [allI_length] at hi
  rw [allI_at _ 240 (Nat.le_refl _) i hi, keys_at key i hi]
end Go.Proofs.YtodkhgofmgaafaaDoor.Av

namespace Go.Proofs.YtodkhgofmgaafaaDoor.Av
open Go
set_option linter.all false
set_option maxRecDepth 3000

/-! the document's round keys are the program's: with no program in sight -/

theorem rndJ_eq : ∀ m, rndJ m = rndI m
  | 0 => rfl
  | m + 1 => by rw [rndJ, rndI, rndJ_eq m]

theorem rkI_row {ws : List (List (BitVec 8))} (h : Rows 60 4 ws) (i : Nat) (h8 : 8 ≤ i) (hi : i < 60) (t : List (BitVec 8)) : ∀ k, k ≤ 4 →
    (∀ j, j ≠ i → (rkI ws i t k).getD j [] = ws.getD j []) ∧ ∀ m, m < k → ((rkI ws i t k).getD i []).getD m 0 = (ws.getD (i - 8) []).getD m 0 ^^^ t.getD m 0
  | 0, _ => ⟨fun _ _ => rfl, fun m hm => by omega⟩
  | k + 1, hk => by
    obtain ⟨h1, h2⟩ := rkI_row h i h8 hi t k (by omega)
    have hr := rkI_rows h i hi t k
    have hl := hr.1
    have hl2 := hr.get hi
    refine ⟨fun j hj => ?_, fun m hm => ?_⟩
    · rw [rkI, getD_set (by omega), if_neg hj, h1 j hj]
    · rw [rkI, getD_set (by omega), if_pos rfl, getD_set (by omega)]
      by_cases e : m = k
      · subst e
        rw [if_pos rfl, h1 (i - 8) (by omega)]
      · rw [if_neg e]
        exact h2 m (by omega)

theorem rwI_step (key : List (BitVec 8)) (i j : Nat) (hi : i < 60) (hj : j ≠ i) : (rwI key (i + 1)).getD j [] = (rwI key i).getD j [] := by
  have hr := rwI_rows key i (by omega)
  have hl := hr.1
  rw [rwI]
  split
  · rw [getD_set (by omega), if_neg hj]
  · exact (rkI_row hr i (by omega) hi _ 4 (Nat.le_refl _)).1 j hj
theorem rwI_stay (key : List (BitVec 8)) (i j : Nat) (hj : j < i) : ∀ d, i + d ≤ 60 → (rwI key (i + d)).getD j [] = (rwI key i).getD j []
  | 0, _ => rfl
  | d + 1, h => by
    rw [← Nat.add_assoc, rwI_step key (i + d) j (by omega) (by omega)]
    exact rwI_stay key i j hj d (by omega)
theorem rwI_at (key : List (BitVec 8)) (i j : Nat) (hj : j < i) (hi : i ≤ 60) : (rwI key 60).getD j [] = (rwI key i).getD j [] := by
  have := rwI_stay key i j hj (60 - i) (by omega)
  rwa [show i + (60 - i) = 60 by omega] at this

theorem rw_flat (key : List (BitVec 8)) (hk : key.length = 32) : ∀ i, i < 60 → ∀ k, k < 4 → ((rwI key 60).getD i []).getD k 0 = (schedI key 52).1.getD (4 * i + k) 0 := by
  intro i
  induction i using Nat.strongRecOn with
  | _ i ih =>
    intro hi k hk4
    have hr := rwI_rows key i (by omega)
    have hl := hr.1
    rw [rwI_at key (i + 1) i (by omega) (by omega), rwI]
    by_cases h8 : i < 8
    · rw [if_pos h8, getD_set (by omega), if_pos rfl, flat_key key hk (4 * i + k) (by omega)]
      rcases (by omega : k = 0 ∨ k = 1 ∨ k = 2 ∨ k = 3) with rfl | rfl | rfl | rfl <;> rfl
    · rw [if_neg h8, (rkI_row hr i (by omega) hi _ 4 (Nat.le_refl _)).2 k hk4, ← rwI_at key i (i - 8) (by omega) (by omega), ih (i - 8) (by omega) (by omega) k hk4]
      obtain ⟨n, rfl⟩ : ∃ n, i = 8 + n := ⟨i - 8, by omega⟩
      have hn : n < 52 := by omega
      have e1 : 4 * (8 + n) + k = 32 + 4 * n + k := by omega
      have e2 : 4 * (8 + n - 8) + k = 4 * n + k := by omega
      rw [e1, e2, flat_word key hk n k hn hk4]
      have ht : ∀ m, m < 4 → ((rwI key (8 + n)).getD (8 + n - 1) []).getD m 0 = (schedI key 52).1.getD (28 + 4 * n + m) 0 := fun m hm => by
        rw [← rwI_at key (8 + n) (8 + n - 1) (by omega) (by omega), ih (8 + n - 1) (by omega) (by omega) m hm]
        congr 1
        omega
      have w0 := (flat_w key hk n 0 hn (by omega)).trans (ht 0 (by omega)).symm
      have w1 := (flat_w key hk n 1 hn (by omega)).trans (ht 1 (by omega)).symm
      have w2 := (flat_w key hk n 2 hn (by omega)).trans (ht 2 (by omega)).symm
      have w3 := (flat_w key hk n 3 hn (by omega)).trans (ht 3 (by omega)).symm
      have wk := (flat_w key hk n k hn hk4).trans (ht k hk4).symm
      congr 1
      rw [schedI_round]
      unfold rtF wordF
      simp only [w0, w1, w2, w3]
      have e3 : (8 + n) % 8 = n % 8 := by omega
      have e4 : n % 8 = 0 → (n + 7) / 8 = (8 + n) / 8 - 1 := by omega
      rw [e3]
      by_cases h0 : n % 8 = 0
      · rw [if_pos h0, if_pos h0, e4 h0, rpow_rnd _ (by omega), rndJ_eq]
      · rw [if_neg h0, if_neg h0]
        by_cases h4 : n % 8 = 4
        · rw [if_pos h4, if_pos h4]
        · rw [if_neg h4, if_neg h4, wk]

theorem roK_row {o : List (List (BitVec 8))} (ws : List (List (BitVec 8))) (h : Rows 15 16 o) (i : Nat) (hi : i < 60) : ∀ k, k ≤ 4 → ∀ j m, j < 15 → m < 16 →
    ((roK ws o i k).getD j []).getD m 0 = if 4 * i ≤ 16 * j + m ∧ 16 * j + m < 4 * i + k then (ws.getD i []).getD (m % 4) 0 else (o.getD j []).getD m 0
  | 0, _, j, m, _, _ => by rw [if_neg (by omega)]; rfl
  | k + 1, hk, j, m, hj, hm => by
    have hr := roK_rows ws h i hi k
    have hl := hr.1
    have hl2 : ((roK ws o i k).getD (i / 4) []).length = 16 := hr.get (by omega)
    have ih := roK_row ws h i hi k (by omega) j m hj hm
    rw [roK, getD_set (by omega)]
    by_cases hji : j = i / 4
    · rw [if_pos hji, getD_set (by omega)]
      by_cases hmk : m = 4 * (i % 4) + k
      · rw [if_pos hmk, if_pos (by omega), show m % 4 = k by omega]
      · rw [if_neg hmk, ← hji, ih]
        by_cases hc : 4 * i ≤ 16 * j + m ∧ 16 * j + m < 4 * i + k
        · rw [if_pos hc, if_pos (by omega)]
        · rw [if_neg hc, if_neg (by omega)]
    · rw [if_neg hji, ih]
      by_cases hc : 4 * i ≤ 16 * j + m ∧ 16 * j + m < 4 * i + k
      · rw [if_pos hc, if_pos (by omega)]
      · rw [if_neg hc, if_neg (by omega)]

theorem roI_row (ws : List (List (BitVec 8))) : ∀ i, i ≤ 60 → ∀ j m, j < 15 → m < 16 → 16 * j + m < 4 * i → ((roI ws i).getD j []).getD m 0 = (ws.getD ((16 * j + m) / 4) []).getD (m % 4) 0
  | 0, _, j, m, _, _, h => by omega
  | i + 1, hi, j, m, hj, hm, h => by
    rw [roI, roK_row ws (roI_rows ws i (by omega)) i (by omega) 4 (Nat.le_refl _) j m hj hm]
    by_cases hc : 4 * i ≤ 16 * j + m ∧ 16 * j + m < 4 * i + 4
    · rw [if_pos hc, show (16 * j + m) / 4 = i by omega]
    · rw [if_neg hc]
      exact roI_row ws i (by omega) j m hj hm (by omega)

theorem rows_ext {n m : Nat} {a b : List (List (BitVec 8))} (ha : Rows n m a) (hb : Rows n m b) (h : ∀ i, i < n → ∀ k, k < m → (a.getD i []).getD k 0 = (b.getD i []).getD k 0) : a = b := by
  refine List.ext_getElem (ha.1.trans hb.1.symm) fun i h1 h2 => ?_
  have hi : i < n := by rw [← ha.1]; exact h1
  have e1 : a[i] = a.getD i [] := by rw [List.getD_eq_getElem?_getD, List.getElem?_eq_getElem h1]; rfl
  have e2 : b[i] = b.getD i [] := by rw [List.getD_eq_getElem?_getD, List.getElem?_eq_getElem h2]; rfl
  rw [e1, e2]
  refine ext_getD ((ha.get hi).trans (hb.get hi).symm) fun k hk => h i hi k (by rw [← ha.get hi]; exact hk)

theorem rschF_rows (key : List (BitVec 8)) : Rows 15 16 (rschF key) := by
  unfold rschF
  exact roI_rows (rwI key 60) 60 (Nat.le_refl 60)
theorem rschF_at (key : List (BitVec 8)) (j m : Nat) (hj : j < 15) (hm : m < 16) : ((rschF key).getD j []).getD m 0 = ((rwI key 60).getD ((16 * j + m) / 4) []).getD (m % 4) 0 := by
  unfold rschF
  exact roI_row (rwI key 60) 60 (Nat.le_refl 60) j m hj hm (by omega)

theorem rsch_eq (key : List (BitVec 8)) (hk : key.length = 32) : rschF key = schedF key := by
  have h2 : Rows 15 16 (schedF key) := ⟨schedF_length key, schedF_lens key hk⟩
  refine rows_ext (rschF_rows key) h2 fun j hj m hm => ?_
  have e := keys_at key (16 * j + m) (by omega)
  have e1 : (16 * j + m) / 16 = j := by omega
  have e2 : (16 * j + m) % 16 = m := by omega
  have e3 : 4 * ((16 * j + m) / 4) + m % 4 = 16 * j + m := by omega
  have e4 := rw_flat key hk ((16 * j + m) / 4) (by omega) (m % 4) (by omega)
  rw [e3] at e4
  rw [e1, e2] at e
  exact (rschF_at key j m hj hm).trans (e4.trans e.symm)
end Go.Proofs.YtodkhgofmgaafaaDoor.Av

namespace Go.Proofs.YtodkhgofmgaafaaDoor.Av
open Go
set_option linter.all false
set_option maxRecDepth 3000

/-! the document's way to encrypt -/
/-- bytes laid one by one: at the places ix 0, ix 1, .. the values v 0, v 1, .. -/
def setsI (ix : Nat → Nat) (v : Nat → BitVec 8) (s : List (BitVec 8)) : Nat → List (BitVec 8)
  | 0 => s
  | n + 1 => (setsI ix v s n).set (ix n) (v n)
theorem setsI_length (ix : Nat → Nat) (v : Nat → BitVec 8) (s : List (BitVec 8)) : ∀ n, (setsI ix v s n).length = s.length
  | 0 => rfl
  | n + 1 => by rw [setsI, List.length_set, setsI_length ix v s n]

def rsubV (s : List (BitVec 8)) (n : Nat) : BitVec 8 := sboxF (s.getD (4 * ((n / 4 + n % 4) % 4) + n % 4) 0)
def rmixV (t : List (BitVec 8)) (n : Nat) : BitVec 8 :=
  shiftF (t.getD (4 * (n / 4) + n % 4) 0) ^^^ shiftF (t.getD (4 * (n / 4) + (n % 4 + 1) % 4) 0) ^^^ t.getD (4 * (n / 4) + (n % 4 + 1) % 4) 0 ^^^ t.getD (4 * (n / 4) + (n % 4 + 2) % 4) 0 ^^^ t.getD (4 * (n / 4) + (n % 4 + 3) % 4) 0
def rsubF (s : List (BitVec 8)) : List (BitVec 8) := setsI id (rsubV s) (List.replicate 16 0) 16
def rmixF (t : List (BitVec 8)) : List (BitVec 8) := setsI id (rmixV t) t 16
def rencI (ks : List (List (BitVec 8))) (b : List (BitVec 8)) : Nat → List (BitVec 8)
  | 0 => xorF b (ks.getD 0 [])
  | n + 1 => xorF (if n + 1 < 14 then rmixF (rsubF (rencI ks b n)) else rsubF (rencI ks b n)) (ks.getD (n + 1) [])
theorem rsubF_length (s : List (BitVec 8)) : (rsubF s).length = 16 := setsI_length _ _ _ 16
theorem rmixF_length (s : List (BitVec 8)) : (rmixF s).length = s.length := setsI_length _ _ _ 16
theorem rencI_length (ks : List (List (BitVec 8))) (b : List (BitVec 8)) (hb : b.length = 16) : ∀ n, (rencI ks b n).length = 16
  | 0 => by rw [rencI, xorF_length, hb]
  | n + 1 => by
    rw [rencI, xorF_length]
    split
    · rw [rmixF_length, rsubF_length]
    · rw [rsubF_length]

set_option maxHeartbeats 4000000 in
theorem renc_ac (ks : List (List (BitVec 8))) (b : List (BitVec 8)) (hb : b.length = 16) (hr : Rows 15 16 ks) : AC Tryd.prog 128 [.node (ks.map .u8s), .u8s b] 0 gB ⟨.u8s (rencI ks b 14), [], []⟩ := by
  have h1 : ks.length = 15 := hr.1
  have hm : (ks.map D.u8s).length = 15 := by rw [List.length_map, h1]
  have hx := xorF_length b (ks.getD 0 [])
  rw [hb] at hx
  refine ac_of tab mix Tryd.func128 rfl (by kernel_rfl) (by kernel_rfl) (by kernel_rfl) ⟨[22], []⟩ ?_
  refine EffG.mk (And.intro hr.ty ?_)
  repeat first | (rw [nthD_u8s (l := ks)]; rotate_left; omega) | (refine EffG.mk (And.intro ?_ ?_); focus ((repeat' (first | exact trivial | refine And.intro ?_ ?_)) <;> (first | omega | (simp only [hasTy, okP, lenD, D.ren, D.isCell, Option.getD, List.length_set, List.length_take, List.length_drop, List.length_append, List.length_replicate, List.length_map, List.length_cons, List.length_nil, Option.map] <;> omega) | with_reducible assumption | with_reducible rfl | decide); done)) | (refine And.intro ?_ ?_; focus ((repeat' (first | exact trivial | refine And.intro ?_ ?_)) <;> (first | omega | (simp only [hasTy, okP, lenD, D.ren, D.isCell, Option.getD, List.length_set, List.length_take, List.length_drop, List.length_append, List.length_replicate, List.length_map, List.length_cons, List.length_nil, Option.map] <;> omega) | with_reducible assumption | with_reducible rfl | decide); done)) | refine chkG (by kernel_rfl) ?_
  refine callG (with_ac b (ks.getD 0 []) hb (hr.get (by omega))) [] rfl rfl trivial rfl rfl ?_
  repeat first | (refine EffG.mk (And.intro ?_ ?_); focus ((repeat' (first | exact trivial | refine And.intro ?_ ?_)) <;> (first | omega | (simp only [hasTy, okP, lenD, D.ren, D.isCell, Option.getD, List.length_set, List.length_take, List.length_drop, List.length_append, List.length_replicate, List.length_map, List.length_cons, List.length_nil, Option.map] <;> omega) | with_reducible assumption | with_reducible rfl | decide); done)) | (refine And.intro ?_ ?_; focus ((repeat' (first | exact trivial | refine And.intro ?_ ?_)) <;> (first | omega | (simp only [hasTy, okP, lenD, D.ren, D.isCell, Option.getD, List.length_set, List.length_take, List.length_drop, List.length_append, List.length_replicate, List.length_map, List.length_cons, List.length_nil, Option.map] <;> omega) | with_reducible assumption | with_reducible rfl | decide); done)) | refine chkG (by kernel_rfl) ?_
  refine loopG Nat (fun k => [(2, .ptr 0 []), (4, .ptr 2 []), (5, .ptr 3 []), (6, .i64 (k + 1 : Nat))])
    (fun k => [(0, some ⟨t15, .node (ks.map .u8s), true⟩), (2, some ⟨t16, .u8s (List.replicate 16 0), true⟩), (3, some ⟨t16, .u8s (rencI ks b k), true⟩), (gid 1, some ⟨t256, .u8s boxL, false⟩)]) 4 (fun k => k ≤ 14) (fun k => 14 - k) 0 [0, 1, 2, 3] (Nat.zero_le _) ?_ ?_
  · exact viewG rfl ⟨rfl, rfl, rfl, rfl, trivial⟩ ⟨⟨_, rfl, rfl, (ren_rows _ _).symm, id⟩, ⟨_, rfl, rfl, rfl, id⟩, ⟨_, rfl, rfl, rfl, id⟩, ⟨_, rfl, rfl, rfl, id⟩, trivial⟩ rfl
  intro k hk14
  have hl := rencI_length ks b hb k
  repeat first | (refine EffG.mk (And.intro ?_ ?_); focus ((repeat' (first | exact trivial | refine And.intro ?_ ?_)) <;> (first | omega | (simp only [hasTy, okP, lenD, D.ren, D.isCell, Option.getD, List.length_set, List.length_take, List.length_drop, List.length_append, List.length_replicate, List.length_map, List.length_cons, List.length_nil, Option.map] <;> omega) | with_reducible assumption | with_reducible rfl | decide); done)) | (refine And.intro ?_ ?_; focus ((repeat' (first | exact trivial | refine And.intro ?_ ?_)) <;> (first | omega | (simp only [hasTy, okP, lenD, D.ren, D.isCell, Option.getD, List.length_set, List.length_take, List.length_drop, List.length_append, List.length_replicate, List.length_map, List.length_cons, List.length_nil, Option.map] <;> omega) | with_reducible assumption | with_reducible rfl | decide); done)) | refine chkG (by kernel_rfl) ?_
  refine Br.split (fun h => ?_) (fun h => ?_)
  · have hk14 : k < 14 := by have := of_decide_eq_true h; omega
    have hc : rencI ks b (k + 1) = xorF (if k + 1 < 14 then rmixF (rsubF (rencI ks b k)) else rsubF (rencI ks b k)) (ks.getD (k + 1) []) := rfl
    generalize rencI ks b k = s at hl hc ⊢
    repeat first | (refine EffG.mk (And.intro ?_ ?_); focus ((repeat' (first | exact trivial | refine And.intro ?_ ?_)) <;> (first | omega | (simp only [hasTy, okP, lenD, D.ren, D.isCell, Option.getD, List.length_set, List.length_take, List.length_drop, List.length_append, List.length_replicate, List.length_map, List.length_cons, List.length_nil, Option.map] <;> omega) | with_reducible assumption | with_reducible rfl | decide); done)) | (refine And.intro ?_ ?_; focus ((repeat' (first | exact trivial | refine And.intro ?_ ?_)) <;> (first | omega | (simp only [hasTy, okP, lenD, D.ren, D.isCell, Option.getD, List.length_set, List.length_take, List.length_drop, List.length_append, List.length_replicate, List.length_map, List.length_cons, List.length_nil, Option.map] <;> omega) | with_reducible assumption | with_reducible rfl | decide); done)) | refine chkG (by kernel_rfl) ?_
    refine loopG Nat (fun c => [(2, .ptr 0 []), (4, .ptr 2 []), (5, .ptr 3 []), (6, .i64 (k + 1 : Nat)), (7, .ptr 4 []), (8, .i64 c)])
      (fun c => [(0, some ⟨t15, .node (ks.map .u8s), true⟩), (2, some ⟨t16, .u8s (List.replicate 16 0), true⟩), (3, some ⟨t16, .u8s s, true⟩), (4, some ⟨t16, .u8s (setsI id (rsubV s) (List.replicate 16 0) (4 * c)), true⟩), (gid 1, some ⟨t256, .u8s boxL, false⟩)]) 5 (fun c => c ≤ 4) (fun c => 4 - c) 0 [0, 1, 2, 3, 4] (Nat.zero_le _) ?_ ?_
    · exact viewG rfl ⟨rfl, rfl, rfl, rfl, rfl, rfl, trivial⟩ ⟨⟨_, rfl, rfl, (ren_rows _ _).symm, id⟩, ⟨_, rfl, rfl, rfl, id⟩, ⟨_, rfl, rfl, rfl, id⟩, ⟨_, rfl, rfl, rfl, id⟩, ⟨_, rfl, rfl, rfl, id⟩, trivial⟩ rfl
    intro c hc4
    repeat first | (refine EffG.mk (And.intro ?_ ?_); focus ((repeat' (first | exact trivial | refine And.intro ?_ ?_)) <;> (first | omega | (simp only [hasTy, okP, lenD, D.ren, D.isCell, Option.getD, List.length_set, List.length_take, List.length_drop, List.length_append, List.length_replicate, List.length_map, List.length_cons, List.length_nil, Option.map] <;> omega) | with_reducible assumption | with_reducible rfl | decide); done)) | (refine And.intro ?_ ?_; focus ((repeat' (first | exact trivial | refine And.intro ?_ ?_)) <;> (first | omega | (simp only [hasTy, okP, lenD, D.ren, D.isCell, Option.getD, List.length_set, List.length_take, List.length_drop, List.length_append, List.length_replicate, List.length_map, List.length_cons, List.length_nil, Option.map] <;> omega) | with_reducible assumption | with_reducible rfl | decide); done)) | refine chkG (by kernel_rfl) ?_
    refine Br.split (fun h => ?_) (fun h => ?_)
    · have hc4 : c < 4 := by have := of_decide_eq_true h; omega
      repeat first | (refine EffG.mk (And.intro ?_ ?_); focus ((repeat' (first | exact trivial | refine And.intro ?_ ?_)) <;> (first | omega | (simp only [hasTy, okP, lenD, D.ren, D.isCell, Option.getD, List.length_set, List.length_take, List.length_drop, List.length_append, List.length_replicate, List.length_map, List.length_cons, List.length_nil, Option.map] <;> omega) | with_reducible assumption | with_reducible rfl | decide); done)) | (refine And.intro ?_ ?_; focus ((repeat' (first | exact trivial | refine And.intro ?_ ?_)) <;> (first | omega | (simp only [hasTy, okP, lenD, D.ren, D.isCell, Option.getD, List.length_set, List.length_take, List.length_drop, List.length_append, List.length_replicate, List.length_map, List.length_cons, List.length_nil, Option.map] <;> omega) | with_reducible assumption | with_reducible rfl | decide); done)) | refine chkG (by kernel_rfl) ?_
      refine loopG Nat (fun r => [(2, .ptr 0 []), (4, .ptr 2 []), (5, .ptr 3 []), (6, .i64 (k + 1 : Nat)), (7, .ptr 4 []), (8, .i64 c), (9, .i64 r)])
        (fun r => [(0, some ⟨t15, .node (ks.map .u8s), true⟩), (2, some ⟨t16, .u8s (List.replicate 16 0), true⟩), (3, some ⟨t16, .u8s s, true⟩), (4, some ⟨t16, .u8s (setsI id (rsubV s) (List.replicate 16 0) (4 * c + r)), true⟩), (gid 1, some ⟨t256, .u8s boxL, false⟩)]) 5 (fun r => r ≤ 4) (fun r => 4 - r) 0 [0, 1, 2, 3, 4] (Nat.zero_le _) ?_ ?_
      · exact viewG rfl ⟨rfl, rfl, rfl, rfl, rfl, rfl, rfl, trivial⟩ ⟨⟨_, rfl, rfl, (ren_rows _ _).symm, id⟩, ⟨_, rfl, rfl, rfl, id⟩, ⟨_, rfl, rfl, rfl, id⟩, ⟨_, rfl, rfl, rfl, id⟩, ⟨_, rfl, rfl, rfl, id⟩, trivial⟩ rfl
      intro r hr4
      have hq := setsI_length id (rsubV s) (List.replicate 16 0) (4 * c + r)
      rw [List.length_replicate] at hq
      repeat first | (refine EffG.mk (And.intro ?_ ?_); focus ((repeat' (first | exact trivial | refine And.intro ?_ ?_)) <;> (first | omega | (simp only [hasTy, okP, lenD, D.ren, D.isCell, Option.getD, List.length_set, List.length_take, List.length_drop, List.length_append, List.length_replicate, List.length_map, List.length_cons, List.length_nil, Option.map] <;> omega) | with_reducible assumption | with_reducible rfl | decide); done)) | (refine And.intro ?_ ?_; focus ((repeat' (first | exact trivial | refine And.intro ?_ ?_)) <;> (first | omega | (simp only [hasTy, okP, lenD, D.ren, D.isCell, Option.getD, List.length_set, List.length_take, List.length_drop, List.length_append, List.length_replicate, List.length_map, List.length_cons, List.length_nil, Option.map] <;> omega) | with_reducible assumption | with_reducible rfl | decide); done)) | refine chkG (by kernel_rfl) ?_
      refine Br.split (fun h => ?_) (fun h => ?_)
      · have hr4 : r < 4 := by have := of_decide_eq_true h; omega
        have e1 : 4 * (c : Int) + (r : Int) = ((4 * c + r : Nat) : Int) := by omega
        have e2 : Int.tmod ((c : Int) + (r : Int)) 4 = (((c + r) % 4 : Nat) : Int) := Int.ofNat_tmod (c + r) 4
        have e3 : 4 * (((c + r) % 4 : Nat) : Int) + (r : Int) = ((4 * ((c + r) % 4) + r : Nat) : Int) := by omega
        repeat first | rw [e1] | rw [e2] | rw [e3] | rw [Int.toNat_natCast] | refine EffG.mk (And.intro (gx1 _) ?_) | refine EffG.mk (And.intro (gx2 _) ?_) | (refine EffG.mk (And.intro ?_ ?_); focus ((repeat' (first | exact trivial | refine And.intro ?_ ?_)) <;> (first | omega | (simp only [hasTy, okP, lenD, D.ren, D.isCell, Option.getD, List.length_set, List.length_take, List.length_drop, List.length_append, List.length_replicate, List.length_map, List.length_cons, List.length_nil, Option.map] <;> omega) | with_reducible assumption | with_reducible rfl | decide); done)) | (refine And.intro ?_ ?_; focus ((repeat' (first | exact trivial | refine And.intro ?_ ?_)) <;> (first | omega | (simp only [hasTy, okP, lenD, D.ren, D.isCell, Option.getD, List.length_set, List.length_take, List.length_drop, List.length_append, List.length_replicate, List.length_map, List.length_cons, List.length_nil, Option.map] <;> omega) | with_reducible assumption | with_reducible rfl | decide); done)) | refine chkG (by kernel_rfl) ?_
        refine nextG (r + 1) [0, 1, 2, 3, 4] ?_ ?_ ?_
        · omega
        · omega
        · refine viewG rfl ⟨rfl, rfl, rfl, rfl, rfl, rfl, rfl, trivial⟩ ⟨⟨_, rfl, rfl, (ren_rows _ _).symm, id⟩, ⟨_, rfl, rfl, rfl, id⟩, ⟨_, rfl, rfl, rfl, id⟩, ⟨_, rfl, rfl, congrArg D.u8s ?_, id⟩, ⟨_, rfl, rfl, rfl, id⟩, trivial⟩ rfl
          rw [← Nat.add_assoc, setsI, rsubV, show (4 * c + r) / 4 = c by omega, show (4 * c + r) % 4 = r by omega]
          rfl
      · have hr4 : r = 4 := by have := of_decide_eq_false h; omega
        subst hr4
        repeat first | (refine EffG.mk (And.intro ?_ ?_); focus ((repeat' (first | exact trivial | refine And.intro ?_ ?_)) <;> (first | omega | (simp only [hasTy, okP, lenD, D.ren, D.isCell, Option.getD, List.length_set, List.length_take, List.length_drop, List.length_append, List.length_replicate, List.length_map, List.length_cons, List.length_nil, Option.map] <;> omega) | with_reducible assumption | with_reducible rfl | decide); done)) | (refine And.intro ?_ ?_; focus ((repeat' (first | exact trivial | refine And.intro ?_ ?_)) <;> (first | omega | (simp only [hasTy, okP, lenD, D.ren, D.isCell, Option.getD, List.length_set, List.length_take, List.length_drop, List.length_append, List.length_replicate, List.length_map, List.length_cons, List.length_nil, Option.map] <;> omega) | with_reducible assumption | with_reducible rfl | decide); done)) | refine chkG (by kernel_rfl) ?_
        refine nextG (c + 1) [0, 1, 2, 3, 4] ?_ ?_ ?_
        · omega
        · omega
        · exact viewG rfl ⟨rfl, rfl, rfl, rfl, rfl, rfl, trivial⟩ ⟨⟨_, rfl, rfl, (ren_rows _ _).symm, id⟩, ⟨_, rfl, rfl, rfl, id⟩, ⟨_, rfl, rfl, rfl, id⟩, ⟨_, rfl, rfl, rfl, id⟩, ⟨_, rfl, rfl, rfl, id⟩, trivial⟩ rfl
    · have hc4 : c = 4 := by have := of_decide_eq_false h; omega
      subst hc4
      have ht := rsubF_length s
      have hu := rmixF_length (rsubF s)
      rw [ht] at hu
      have e0 : setsI id (rsubV s) (List.replicate 16 0) (4 * 4) = rsubF s := rfl
      rw [e0]
      generalize rsubF s = t at ht hc hu ⊢
      repeat first | (refine EffG.mk (And.intro ?_ ?_); focus ((repeat' (first | exact trivial | refine And.intro ?_ ?_)) <;> (first | omega | (simp only [hasTy, okP, lenD, D.ren, D.isCell, Option.getD, List.length_set, List.length_take, List.length_drop, List.length_append, List.length_replicate, List.length_map, List.length_cons, List.length_nil, Option.map] <;> omega) | with_reducible assumption | with_reducible rfl | decide); done)) | (refine And.intro ?_ ?_; focus ((repeat' (first | exact trivial | refine And.intro ?_ ?_)) <;> (first | omega | (simp only [hasTy, okP, lenD, D.ren, D.isCell, Option.getD, List.length_set, List.length_take, List.length_drop, List.length_append, List.length_replicate, List.length_map, List.length_cons, List.length_nil, Option.map] <;> omega) | with_reducible assumption | with_reducible rfl | decide); done)) | refine chkG (by kernel_rfl) ?_
      refine joinG Unit (fun _ => [(2, .ptr 0 []), (4, .ptr 2 []), (5, .ptr 3 []), (6, .i64 (k + 1 : Nat))])
        (fun _ => [(0, some ⟨t15, .node (ks.map .u8s), true⟩), (2, some ⟨t16, .u8s (List.replicate 16 0), true⟩), (3, some ⟨t16, .u8s (if k + 1 < 14 then rmixF t else t), true⟩), (gid 1, some ⟨t256, .u8s boxL, false⟩)]) 4 (fun _ => True) ?_ ?_
      · repeat first | (refine EffG.mk (And.intro ?_ ?_); focus ((repeat' (first | exact trivial | refine And.intro ?_ ?_)) <;> (first | omega | (simp only [hasTy, okP, lenD, D.ren, D.isCell, Option.getD, List.length_set, List.length_take, List.length_drop, List.length_append, List.length_replicate, List.length_map, List.length_cons, List.length_nil, Option.map] <;> omega) | with_reducible assumption | with_reducible rfl | decide); done)) | (refine And.intro ?_ ?_; focus ((repeat' (first | exact trivial | refine And.intro ?_ ?_)) <;> (first | omega | (simp only [hasTy, okP, lenD, D.ren, D.isCell, Option.getD, List.length_set, List.length_take, List.length_drop, List.length_append, List.length_replicate, List.length_map, List.length_cons, List.length_nil, Option.map] <;> omega) | with_reducible assumption | with_reducible rfl | decide); done)) | refine chkG (by kernel_rfl) ?_
        refine loopG Nat (fun c => [(2, .ptr 0 []), (4, .ptr 2 []), (5, .ptr 3 []), (6, .i64 (k + 1 : Nat)), (7, .ptr 4 []), (10, .i64 c)])
          (fun c => [(0, some ⟨t15, .node (ks.map .u8s), true⟩), (2, some ⟨t16, .u8s (List.replicate 16 0), true⟩), (3, some ⟨t16, .u8s (setsI id (rmixV t) t (4 * c)), true⟩), (4, some ⟨t16, .u8s t, true⟩), (gid 1, some ⟨t256, .u8s boxL, false⟩)]) 5 (fun c => c ≤ 4 ∧ (¬ k + 1 < 14 → c = 0)) (fun c => 4 - c) 0 [0, 1, 2, 3, 4] ⟨Nat.zero_le _, fun _ => rfl⟩ ?_ ?_
        · exact viewG rfl ⟨rfl, rfl, rfl, rfl, rfl, rfl, trivial⟩ ⟨⟨_, rfl, rfl, (ren_rows _ _).symm, id⟩, ⟨_, rfl, rfl, rfl, id⟩, ⟨_, rfl, rfl, rfl, id⟩, ⟨_, rfl, rfl, rfl, id⟩, ⟨_, rfl, rfl, rfl, id⟩, trivial⟩ rfl
        intro c ⟨hc4, hc0⟩
        repeat first | (refine EffG.mk (And.intro ?_ ?_); focus ((repeat' (first | exact trivial | refine And.intro ?_ ?_)) <;> (first | omega | (simp only [hasTy, okP, lenD, D.ren, D.isCell, Option.getD, List.length_set, List.length_take, List.length_drop, List.length_append, List.length_replicate, List.length_map, List.length_cons, List.length_nil, Option.map] <;> omega) | with_reducible assumption | with_reducible rfl | decide); done)) | (refine And.intro ?_ ?_; focus ((repeat' (first | exact trivial | refine And.intro ?_ ?_)) <;> (first | omega | (simp only [hasTy, okP, lenD, D.ren, D.isCell, Option.getD, List.length_set, List.length_take, List.length_drop, List.length_append, List.length_replicate, List.length_map, List.length_cons, List.length_nil, Option.map] <;> omega) | with_reducible assumption | with_reducible rfl | decide); done)) | refine chkG (by kernel_rfl) ?_
        refine Br.split (fun h => ?_) (fun h => ?_)
        · have hc4 : c < 4 := by have := of_decide_eq_true h; omega
          repeat first | (refine EffG.mk (And.intro ?_ ?_); focus ((repeat' (first | exact trivial | refine And.intro ?_ ?_)) <;> (first | omega | (simp only [hasTy, okP, lenD, D.ren, D.isCell, Option.getD, List.length_set, List.length_take, List.length_drop, List.length_append, List.length_replicate, List.length_map, List.length_cons, List.length_nil, Option.map] <;> omega) | with_reducible assumption | with_reducible rfl | decide); done)) | (refine And.intro ?_ ?_; focus ((repeat' (first | exact trivial | refine And.intro ?_ ?_)) <;> (first | omega | (simp only [hasTy, okP, lenD, D.ren, D.isCell, Option.getD, List.length_set, List.length_take, List.length_drop, List.length_append, List.length_replicate, List.length_map, List.length_cons, List.length_nil, Option.map] <;> omega) | with_reducible assumption | with_reducible rfl | decide); done)) | refine chkG (by kernel_rfl) ?_ | refine Br.yes rfl ?_
          refine Br.split (fun h => ?_) (fun h => ?_)
          · have hk : k + 1 < 14 := by have := of_decide_eq_true h; omega
            repeat first | (refine EffG.mk (And.intro ?_ ?_); focus ((repeat' (first | exact trivial | refine And.intro ?_ ?_)) <;> (first | omega | (simp only [hasTy, okP, lenD, D.ren, D.isCell, Option.getD, List.length_set, List.length_take, List.length_drop, List.length_append, List.length_replicate, List.length_map, List.length_cons, List.length_nil, Option.map] <;> omega) | with_reducible assumption | with_reducible rfl | decide); done)) | (refine And.intro ?_ ?_; focus ((repeat' (first | exact trivial | refine And.intro ?_ ?_)) <;> (first | omega | (simp only [hasTy, okP, lenD, D.ren, D.isCell, Option.getD, List.length_set, List.length_take, List.length_drop, List.length_append, List.length_replicate, List.length_map, List.length_cons, List.length_nil, Option.map] <;> omega) | with_reducible assumption | with_reducible rfl | decide); done)) | refine chkG (by kernel_rfl) ?_
            refine loopG Nat (fun r => [(2, .ptr 0 []), (4, .ptr 2 []), (5, .ptr 3 []), (6, .i64 (k + 1 : Nat)), (7, .ptr 4 []), (10, .i64 c), (11, .i64 r)])
              (fun r => [(0, some ⟨t15, .node (ks.map .u8s), true⟩), (2, some ⟨t16, .u8s (List.replicate 16 0), true⟩), (3, some ⟨t16, .u8s (setsI id (rmixV t) t (4 * c + r)), true⟩), (4, some ⟨t16, .u8s t, true⟩), (gid 1, some ⟨t256, .u8s boxL, false⟩)]) 5 (fun r => r ≤ 4) (fun r => 4 - r) 0 [0, 1, 2, 3, 4] (Nat.zero_le _) ?_ ?_
            · exact viewG rfl ⟨rfl, rfl, rfl, rfl, rfl, rfl, rfl, trivial⟩ ⟨⟨_, rfl, rfl, (ren_rows _ _).symm, id⟩, ⟨_, rfl, rfl, rfl, id⟩, ⟨_, rfl, rfl, rfl, id⟩, ⟨_, rfl, rfl, rfl, id⟩, ⟨_, rfl, rfl, rfl, id⟩, trivial⟩ rfl
            intro r hr4
            have hq := setsI_length id (rmixV t) t (4 * c + r)
            rw [ht] at hq
            repeat first | (refine EffG.mk (And.intro ?_ ?_); focus ((repeat' (first | exact trivial | refine And.intro ?_ ?_)) <;> (first | omega | (simp only [hasTy, okP, lenD, D.ren, D.isCell, Option.getD, List.length_set, List.length_take, List.length_drop, List.length_append, List.length_replicate, List.length_map, List.length_cons, List.length_nil, Option.map] <;> omega) | with_reducible assumption | with_reducible rfl | decide); done)) | (refine And.intro ?_ ?_; focus ((repeat' (first | exact trivial | refine And.intro ?_ ?_)) <;> (first | omega | (simp only [hasTy, okP, lenD, D.ren, D.isCell, Option.getD, List.length_set, List.length_take, List.length_drop, List.length_append, List.length_replicate, List.length_map, List.length_cons, List.length_nil, Option.map] <;> omega) | with_reducible assumption | with_reducible rfl | decide); done)) | refine chkG (by kernel_rfl) ?_
            refine Br.split (fun h => ?_) (fun h => ?_)
            · have hr4 : r < 4 := by have := of_decide_eq_true h; omega
              have e1 : 4 * (c : Int) + (r : Int) = ((4 * c + r : Nat) : Int) := by omega
              have m1 : Int.tmod ((r : Int) + 1) 4 = (((r + 1) % 4 : Nat) : Int) := Int.ofNat_tmod (r + 1) 4
              have m2 : Int.tmod ((r : Int) + 2) 4 = (((r + 2) % 4 : Nat) : Int) := Int.ofNat_tmod (r + 2) 4
              have m3 : Int.tmod ((r : Int) + 3) 4 = (((r + 3) % 4 : Nat) : Int) := Int.ofNat_tmod (r + 3) 4
              have n1 : 4 * (c : Int) + (((r + 1) % 4 : Nat) : Int) = ((4 * c + (r + 1) % 4 : Nat) : Int) := by omega
              have n2 : 4 * (c : Int) + (((r + 2) % 4 : Nat) : Int) = ((4 * c + (r + 2) % 4 : Nat) : Int) := by omega
              have n3 : 4 * (c : Int) + (((r + 3) % 4 : Nat) : Int) = ((4 * c + (r + 3) % 4 : Nat) : Int) := by omega
              repeat first | rw [e1] | rw [m1] | rw [m2] | rw [m3] | rw [n1] | rw [n2] | rw [n3] | rw [Int.toNat_natCast] | (refine EffG.mk (And.intro ?_ ?_); focus ((repeat' (first | exact trivial | refine And.intro ?_ ?_)) <;> (first | omega | (simp only [hasTy, okP, lenD, D.ren, D.isCell, Option.getD, List.length_set, List.length_take, List.length_drop, List.length_append, List.length_replicate, List.length_map, List.length_cons, List.length_nil, Option.map] <;> omega) | with_reducible assumption | with_reducible rfl | decide); done)) | (refine And.intro ?_ ?_; focus ((repeat' (first | exact trivial | refine And.intro ?_ ?_)) <;> (first | omega | (simp only [hasTy, okP, lenD, D.ren, D.isCell, Option.getD, List.length_set, List.length_take, List.length_drop, List.length_append, List.length_replicate, List.length_map, List.length_cons, List.length_nil, Option.map] <;> omega) | with_reducible assumption | with_reducible rfl | decide); done)) | refine chkG (by kernel_rfl) ?_
              refine callG (twice_ac _) [] rfl rfl trivial rfl rfl ?_
              repeat first | (refine EffG.mk (And.intro ?_ ?_); focus ((repeat' (first | exact trivial | refine And.intro ?_ ?_)) <;> (first | omega | (simp only [hasTy, okP, lenD, D.ren, D.isCell, Option.getD, List.length_set, List.length_take, List.length_drop, List.length_append, List.length_replicate, List.length_map, List.length_cons, List.length_nil, Option.map] <;> omega) | with_reducible assumption | with_reducible rfl | decide); done)) | (refine And.intro ?_ ?_; focus ((repeat' (first | exact trivial | refine And.intro ?_ ?_)) <;> (first | omega | (simp only [hasTy, okP, lenD, D.ren, D.isCell, Option.getD, List.length_set, List.length_take, List.length_drop, List.length_append, List.length_replicate, List.length_map, List.length_cons, List.length_nil, Option.map] <;> omega) | with_reducible assumption | with_reducible rfl | decide); done)) | refine chkG (by kernel_rfl) ?_
              refine callG (twice_ac _) [] rfl rfl trivial rfl rfl ?_
              repeat first | (refine EffG.mk (And.intro ?_ ?_); focus ((repeat' (first | exact trivial | refine And.intro ?_ ?_)) <;> (first | omega | (simp only [hasTy, okP, lenD, D.ren, D.isCell, Option.getD, List.length_set, List.length_take, List.length_drop, List.length_append, List.length_replicate, List.length_map, List.length_cons, List.length_nil, Option.map] <;> omega) | with_reducible assumption | with_reducible rfl | decide); done)) | (refine And.intro ?_ ?_; focus ((repeat' (first | exact trivial | refine And.intro ?_ ?_)) <;> (first | omega | (simp only [hasTy, okP, lenD, D.ren, D.isCell, Option.getD, List.length_set, List.length_take, List.length_drop, List.length_append, List.length_replicate, List.length_map, List.length_cons, List.length_nil, Option.map] <;> omega) | with_reducible assumption | with_reducible rfl | decide); done)) | refine chkG (by kernel_rfl) ?_
              refine nextG (r + 1) [0, 1, 2, 3, 4] ?_ ?_ ?_
              · omega
              · omega
              · refine viewG rfl ⟨rfl, rfl, rfl, rfl, rfl, rfl, rfl, trivial⟩ ⟨⟨_, rfl, rfl, (ren_rows _ _).symm, id⟩, ⟨_, rfl, rfl, rfl, id⟩, ⟨_, rfl, rfl, congrArg D.u8s ?_, id⟩, ⟨_, rfl, rfl, rfl, id⟩, ⟨_, rfl, rfl, rfl, id⟩, trivial⟩ rfl
                rw [← Nat.add_assoc, setsI, rmixV, show (4 * c + r) / 4 = c by omega, show (4 * c + r) % 4 = r by omega]
                rfl
            · have hr4 : r = 4 := by have := of_decide_eq_false h; omega
              subst hr4
              repeat first | (refine EffG.mk (And.intro ?_ ?_); focus ((repeat' (first | exact trivial | refine And.intro ?_ ?_)) <;> (first | omega | (simp only [hasTy, okP, lenD, D.ren, D.isCell, Option.getD, List.length_set, List.length_take, List.length_drop, List.length_append, List.length_replicate, List.length_map, List.length_cons, List.length_nil, Option.map] <;> omega) | with_reducible assumption | with_reducible rfl | decide); done)) | (refine And.intro ?_ ?_; focus ((repeat' (first | exact trivial | refine And.intro ?_ ?_)) <;> (first | omega | (simp only [hasTy, okP, lenD, D.ren, D.isCell, Option.getD, List.length_set, List.length_take, List.length_drop, List.length_append, List.length_replicate, List.length_map, List.length_cons, List.length_nil, Option.map] <;> omega) | with_reducible assumption | with_reducible rfl | decide); done)) | refine chkG (by kernel_rfl) ?_
              refine nextG (c + 1) [0, 1, 2, 3, 4] ?_ ?_ ?_
              · exact ⟨by omega, fun h => absurd hk h⟩
              · show 4 - (c + 1) < 4 - c
                omega
              · exact viewG rfl ⟨rfl, rfl, rfl, rfl, rfl, rfl, trivial⟩ ⟨⟨_, rfl, rfl, (ren_rows _ _).symm, id⟩, ⟨_, rfl, rfl, rfl, id⟩, ⟨_, rfl, rfl, rfl, id⟩, ⟨_, rfl, rfl, rfl, id⟩, ⟨_, rfl, rfl, rfl, id⟩, trivial⟩ rfl
          · have hk : ¬ k + 1 < 14 := by have := of_decide_eq_false h; omega
            have hc0 := hc0 hk
            subst hc0
            refine meetG () [0, 1, 2, 3] trivial ?_
            exact viewG rfl ⟨rfl, rfl, rfl, rfl, trivial⟩ ⟨⟨_, rfl, rfl, (ren_rows _ _).symm, id⟩, ⟨_, rfl, rfl, rfl, id⟩, ⟨_, rfl, rfl, congrArg D.u8s (if_neg hk).symm, id⟩, ⟨_, rfl, rfl, rfl, id⟩, trivial⟩ rfl
        · have hc4 : c = 4 := by have := of_decide_eq_false h; omega
          subst hc4
          have hk : k + 1 < 14 := Decidable.byContradiction fun h => by have := hc0 h; omega
          repeat first | (refine EffG.mk (And.intro ?_ ?_); focus ((repeat' (first | exact trivial | refine And.intro ?_ ?_)) <;> (first | omega | (simp only [hasTy, okP, lenD, D.ren, D.isCell, Option.getD, List.length_set, List.length_take, List.length_drop, List.length_append, List.length_replicate, List.length_map, List.length_cons, List.length_nil, Option.map] <;> omega) | with_reducible assumption | with_reducible rfl | decide); done)) | (refine And.intro ?_ ?_; focus ((repeat' (first | exact trivial | refine And.intro ?_ ?_)) <;> (first | omega | (simp only [hasTy, okP, lenD, D.ren, D.isCell, Option.getD, List.length_set, List.length_take, List.length_drop, List.length_append, List.length_replicate, List.length_map, List.length_cons, List.length_nil, Option.map] <;> omega) | with_reducible assumption | with_reducible rfl | decide); done)) | refine chkG (by kernel_rfl) ?_ | refine Br.no rfl ?_
          refine meetG () [0, 1, 2, 3] trivial ?_
          exact viewG rfl ⟨rfl, rfl, rfl, rfl, trivial⟩ ⟨⟨_, rfl, rfl, (ren_rows _ _).symm, id⟩, ⟨_, rfl, rfl, rfl, id⟩, ⟨_, rfl, rfl, congrArg D.u8s (if_pos hk).symm, id⟩, ⟨_, rfl, rfl, rfl, id⟩, trivial⟩ rfl
      intro _ _
      have hz : (if k + 1 < 14 then rmixF t else t).length = 16 := by
        split
        · exact hu
        · exact ht
      generalize (if k + 1 < 14 then rmixF t else t) = z at hz hc ⊢
      have hx2 := xorF_length z (ks.getD (k + 1) [])
      rw [hz] at hx2
      repeat first | (rw [nthD_u8s (l := ks)]; rotate_left; omega) | rw [Int.toNat_natCast (k + 1)] | (refine EffG.mk (And.intro ?_ ?_); focus ((repeat' (first | exact trivial | refine And.intro ?_ ?_)) <;> (first | omega | (simp only [hasTy, okP, lenD, D.ren, D.isCell, Option.getD, List.length_set, List.length_take, List.length_drop, List.length_append, List.length_replicate, List.length_map, List.length_cons, List.length_nil, Option.map] <;> omega) | with_reducible assumption | with_reducible rfl | decide); done)) | (refine And.intro ?_ ?_; focus ((repeat' (first | exact trivial | refine And.intro ?_ ?_)) <;> (first | omega | (simp only [hasTy, okP, lenD, D.ren, D.isCell, Option.getD, List.length_set, List.length_take, List.length_drop, List.length_append, List.length_replicate, List.length_map, List.length_cons, List.length_nil, Option.map] <;> omega) | with_reducible assumption | with_reducible rfl | decide); done)) | refine chkG (by kernel_rfl) ?_
      refine callG (with_ac z (ks.getD (k + 1) []) hz (hr.get (by omega))) [] rfl rfl trivial rfl rfl ?_
      repeat first | (refine EffG.mk (And.intro ?_ ?_); focus ((repeat' (first | exact trivial | refine And.intro ?_ ?_)) <;> (first | omega | (simp only [hasTy, okP, lenD, D.ren, D.isCell, Option.getD, List.length_set, List.length_take, List.length_drop, List.length_append, List.length_replicate, List.length_map, List.length_cons, List.length_nil, Option.map] <;> omega) | with_reducible assumption | with_reducible rfl | decide); done)) | (refine And.intro ?_ ?_; focus ((repeat' (first | exact trivial | refine And.intro ?_ ?_)) <;> (first | omega | (simp only [hasTy, okP, lenD, D.ren, D.isCell, Option.getD, List.length_set, List.length_take, List.length_drop, List.length_append, List.length_replicate, List.length_map, List.length_cons, List.length_nil, Option.map] <;> omega) | with_reducible assumption | with_reducible rfl | decide); done)) | refine chkG (by kernel_rfl) ?_
      refine nextG (k + 1) [0, 1, 2, 3] ?_ ?_ ?_
      · omega
      · omega
      · exact viewG rfl ⟨rfl, rfl, rfl, rfl, trivial⟩ ⟨⟨_, rfl, rfl, (ren_rows _ _).symm, id⟩, ⟨_, rfl, rfl, rfl, id⟩, ⟨_, rfl, rfl, congrArg D.u8s hc.symm, id⟩, ⟨_, rfl, rfl, rfl, id⟩, trivial⟩ rfl
  · have hk14 : k = 14 := by have := of_decide_eq_false h; omega
    subst hk14
    generalize rencI ks b 14 = z at hl ⊢
    repeat first | (refine EffG.mk (And.intro ?_ ?_); focus ((repeat' (first | exact trivial | refine And.intro ?_ ?_)) <;> (first | omega | (simp only [hasTy, okP, lenD, D.ren, D.isCell, Option.getD, List.length_set, List.length_take, List.length_drop, List.length_append, List.length_replicate, List.length_map, List.length_cons, List.length_nil, Option.map] <;> omega) | with_reducible assumption | with_reducible rfl | decide); done)) | (refine And.intro ?_ ?_; focus ((repeat' (first | exact trivial | refine And.intro ?_ ?_)) <;> (first | omega | (simp only [hasTy, okP, lenD, D.ren, D.isCell, Option.getD, List.length_set, List.length_take, List.length_drop, List.length_append, List.length_replicate, List.length_map, List.length_cons, List.length_nil, Option.map] <;> omega) | with_reducible assumption | with_reducible rfl | decide); done)) | refine chkG (by kernel_rfl) ?_
    refine retG [] rfl rfl ⟨⟨_, rfl, rfl, rfl, id⟩, trivial⟩ rfl
end Go.Proofs.YtodkhgofmgaafaaDoor.Av

namespace Go.Proofs.YtodkhgofmgaafaaDoor.Av
open Go
set_option linter.all false
set_option maxRecDepth 3000

theorem setsI_at {ix : Nat → Nat} (v : Nat → BitVec 8) (s : List (BitVec 8)) (N : Nat) (hix : ∀ i, i < N → ix i < s.length) (hinj : ∀ i, i < N → ∀ j, j < N → ix i = ix j → i = j) : ∀ n, n ≤ N → ∀ i, i < n → (setsI ix v s n).getD (ix i) 0 = v i
  | 0, _, i, hi => by omega
  | n + 1, hn, i, hi => by
    rw [setsI, getD_set (by rw [setsI_length]; exact hix n (by omega))]
    by_cases h : i = n
    · subst h; rw [if_pos rfl]
    · rw [if_neg (fun e => h (hinj i (by omega) n (by omega) e))]
      exact setsI_at v s N hix hinj n (by omega) i (by omega)

theorem sg_form : ∀ i, i < 16 → 4 * ((i / 4 + i % 4) % 4) + i % 4 = sg i := by decide

theorem rsub_eq (s : List (BitVec 8)) : rsubF s = subI s 16 := by
  refine ext16 (rsubF_length s) (subI_length s 16) fun i hi => ?_
  have h := setsI_at (ix := id) (rsubV s) (List.replicate 16 0) 16 (fun i hi => by rw [List.length_replicate]; exact hi) (fun i _ j _ h => h) 16 (Nat.le_refl _) i hi
  rw [subI_at s 16 (Nat.le_refl _) i hi, ← sg_form i hi]
  exact h

def rcF (f : BitVec 8 → BitVec 8) (a b c d : BitVec 8) : List (BitVec 8) :=
  [f a ^^^ f b ^^^ b ^^^ c ^^^ d, f b ^^^ f c ^^^ c ^^^ d ^^^ a, f c ^^^ f d ^^^ d ^^^ a ^^^ b, f d ^^^ f a ^^^ a ^^^ b ^^^ c]
theorem rmixF_list (a0 a1 a2 a3 a4 a5 a6 a7 a8 a9 a10 a11 a12 a13 a14 a15 : BitVec 8) : rmixF [a0, a1, a2, a3, a4, a5, a6, a7, a8, a9, a10, a11, a12, a13, a14, a15] =
    rcF shiftF a0 a1 a2 a3 ++ rcF shiftF a4 a5 a6 a7 ++ rcF shiftF a8 a9 a10 a11 ++ rcF shiftF a12 a13 a14 a15 := by
  kernel_rfl
theorem rc_mc (f : BitVec 8 → BitVec 8) (hf : ∀ x y, f (x ^^^ y) = f x ^^^ f y) (a b c d : BitVec 8) : rcF f a b c d = mcF f a b c d := by
  refine list4 ?_ ?_ ?_ ?_ <;> rw [hf] <;> simp only [BitVec.xor_assoc, BitVec.xor_comm, xor_lc, xor_cancel]
theorem rmix_eq (s : List (BitVec 8)) (hs : s.length = 16) : rmixF s = mixF s := by
  obtain ⟨a0, a1, a2, a3, a4, a5, a6, a7, a8, a9, a10, a11, a12, a13, a14, a15, rfl⟩ := list16 s hs
  rw [mixF_list, rmixF_list]
  exact four (rc_mc shiftF shiftF_xor _ _ _ _) (rc_mc shiftF shiftF_xor _ _ _ _) (rc_mc shiftF shiftF_xor _ _ _ _) (rc_mc shiftF shiftF_xor _ _ _ _)
theorem renc_eq (ks : List (List (BitVec 8))) (b : List (BitVec 8)) : ∀ n, rencI ks b n = encI ks b n
  | 0 => rfl
  | n + 1 => by
    rw [rencI, encI, renc_eq ks b n, rsub_eq, rmix_eq _ (subI_length _ _)]
end Go.Proofs.YtodkhgofmgaafaaDoor.Av

namespace Go.Proofs.YtodkhgofmgaafaaDoor.Av
open Go
set_option linter.all false
set_option maxRecDepth 3000

/-- sealed by one key, and opened: all that the laws need of it -/
theorem seal_ex (b k : List (BitVec 8)) (hb : b.length = 32) (hk : k.length = 32) : ∃ s c : List (BitVec 8), s = maskF b k ∧ c = chkF b s ∧ s.length = 32 ∧ c.length = 32 ∧ s ≠ k ∧
    AC Tryd.prog 97 [.u8s b, .u8s k] 0 [gR] ⟨.tup [.u8s s, .u8s c], [], []⟩ ∧ AC Tryd.prog 47 [.u8s b, .u8s s, .u8s c] 0 [gR] ⟨.tup [.u8s k, .i64 0], [], []⟩ ∧
    AC Tryd.prog 89 [.u8s b, .u8s s] 0 [gR] ⟨.u8s c, [], []⟩ := by
  have h2 := open_ac b (maskF b k) (chkF b (maskF b k)) hb ((maskF_length b k).trans hk) (chkF_length _ _)
  rw [if_pos rfl, if_pos rfl, mask_mask b k hk] at h2
  exact ⟨_, _, rfl, rfl, (maskF_length b k).trans hk, chkF_length _ _, mask_ne b k hk, wseal_ac b k hb hk, h2, check_ac b _ hb ((maskF_length b k).trans hk)⟩

theorem set_ne {l : List (BitVec 8)} {i : Nat} {t : BitVec 8} (hi : i < l.length) (ht : t ≠ 0) : l ≠ l.set i (l.getD i 0 ^^^ t) := by
  intro h
  have h2 := congrArg (fun x => x.getD i 0) h
  simp only [getD_set hi, if_true] at h2
  have : t = 0 := by
    rw [← xor_cancel (l.getD i 0) t, ← h2, BitVec.xor_self]; rfl
  exact ht this
theorem open_no (b s c : List (BitVec 8)) (hb : b.length = 32) (hs : s.length = 32) (hc : c.length = 32) (h : ¬ chkF b s = c) : AC Tryd.prog 47 [.u8s b, .u8s s, .u8s c] 0 [gR] ⟨.tup [.u8s (List.replicate 32 0), .i64 30], [], []⟩ := by
  have := open_ac b s c hb hs hc
  rw [if_neg h, if_neg h] at this
  exact this
theorem open_any (b s c : List (BitVec 8)) (hb : b.length = 32) (hs : s.length = 32) (hc : c.length = 32) : ∃ (y : List (BitVec 8)) (f : Int), y.length = 32 ∧ AC Tryd.prog 47 [.u8s b, .u8s s, .u8s c] 0 [gR] ⟨.tup [.u8s y, .i64 f], [], []⟩ ∧
    ((f = 30 ∧ y = List.replicate 32 0) ∨ (f = 0 ∧ AC Tryd.prog 89 [.u8s b, .u8s s] 0 [gR] ⟨.u8s c, [], []⟩)) := by
  by_cases h : chkF b s = c
  · have := open_ac b s c hb hs hc
    rw [if_pos h, if_pos h] at this
    have h2 := check_ac b s hb hs
    rw [h] at h2
    exact ⟨_, _, (maskF_length b s).trans hs, this, .inr ⟨rfl, h2⟩⟩
  · exact ⟨_, _, rfl, open_no b s c hb hs hc h, .inl ⟨rfl, rfl⟩⟩

end Go.Proofs.YtodkhgofmgaafaaDoor.Av
