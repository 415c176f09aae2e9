import Derived.Test.YtljkjdhkofbgmaaDoorDec
namespace Go.Proofs.YtljkjdhkofbgmaaDoor.Av
open Go
set_option linter.all false
set_option maxRecDepth 3000

/-! what is encrypted is decrypted to what it was, with no program in sight -/

theorem box_back (b : BitVec 8) : usboxF (sboxF b) = b ∧ sboxF (usboxF b) = b :=
  byte_nat (p := fun b => usboxF (sboxF b) = b ∧ sboxF (usboxF b) = b) (by decide +kernel) b

theorem high_bit (a : BitVec 8) : a &&& 128 = 0 ∨ a &&& 128 = 128 := byte_nat (p := fun a => a &&& 128 = 0 ∨ a &&& 128 = 128) (by decide +kernel) a

theorem xor_lc (a b c : BitVec 8) : a ^^^ (b ^^^ c) = b ^^^ (a ^^^ c) := by rw [← BitVec.xor_assoc, BitVec.xor_comm a b, BitVec.xor_assoc]
theorem xor_cancel (a b : BitVec 8) : a ^^^ (a ^^^ b) = b := by rw [← BitVec.xor_assoc, BitVec.xor_self, BitVec.zero_xor]
theorem and_xor (a b c : BitVec 8) : (a ^^^ b) &&& c = (a &&& c) ^^^ (b &&& c) := by
  apply BitVec.eq_of_getLsbD_eq
  intro i hi
  simp only [BitVec.getLsbD_and, BitVec.getLsbD_xor]
  cases a.getLsbD i <;> cases b.getLsbD i <;> cases c.getLsbD i <;> rfl
theorem shiftF_xor (a b : BitVec 8) : shiftF (a ^^^ b) = shiftF a ^^^ shiftF b := by
  unfold shiftF
  have e : (a ^^^ b) &&& 128 = (a &&& 128) ^^^ (b &&& 128) := and_xor a b 128
  rw [e, BitVec.shiftLeft_xor_distrib]
  rcases high_bit a with ha | ha <;> rcases high_bit b with hb | hb <;> rw [ha, hb]
  · simp
  · simp [BitVec.xor_assoc]
  · simp only [BitVec.xor_assoc, BitVec.xor_comm, xor_lc, if_true]; simp [BitVec.xor_assoc, BitVec.xor_comm, xor_lc]
  · simp [BitVec.xor_assoc, BitVec.xor_comm, xor_lc, xor_cancel]

theorem list16 {α : Type} (l : List α) (h : l.length = 16) : ∃ a0 a1 a2 a3 a4 a5 a6 a7 a8 a9 a10 a11 a12 a13 a14 a15, l = [a0, a1, a2, a3, a4, a5, a6, a7, a8, a9, a10, a11, a12, a13, a14, a15] := by
  match l, h with
  | [a0, a1, a2, a3, a4, a5, a6, a7, a8, a9, a10, a11, a12, a13, a14, a15], _ => exact ⟨a0, a1, a2, a3, a4, a5, a6, a7, a8, a9, a10, a11, a12, a13, a14, a15, rfl⟩

def mcF (f : BitVec 8 → BitVec 8) (a b c d : BitVec 8) : List (BitVec 8) :=
  [a ^^^ (a ^^^ b ^^^ c ^^^ d ^^^ f (a ^^^ b)), b ^^^ (a ^^^ b ^^^ c ^^^ d ^^^ f (b ^^^ c)), c ^^^ (a ^^^ b ^^^ c ^^^ d ^^^ f (c ^^^ d)), d ^^^ (a ^^^ b ^^^ c ^^^ d ^^^ f (d ^^^ a))]
def pcF (f : BitVec 8 → BitVec 8) (a b c d : BitVec 8) : List (BitVec 8) :=
  [a ^^^ f (f (a ^^^ c)), b ^^^ f (f (b ^^^ d)), c ^^^ f (f (a ^^^ c)), d ^^^ f (f (b ^^^ d))]

theorem mixF_list (a0 a1 a2 a3 a4 a5 a6 a7 a8 a9 a10 a11 a12 a13 a14 a15 : BitVec 8) : mixF [a0, a1, a2, a3, a4, a5, a6, a7, a8, a9, a10, a11, a12, a13, a14, a15] =
    mcF shiftF a0 a1 a2 a3 ++ mcF shiftF a4 a5 a6 a7 ++ mcF shiftF a8 a9 a10 a11 ++ mcF shiftF a12 a13 a14 a15 := by
  kernel_rfl
theorem preI_list (a0 a1 a2 a3 a4 a5 a6 a7 a8 a9 a10 a11 a12 a13 a14 a15 : BitVec 8) : preI [a0, a1, a2, a3, a4, a5, a6, a7, a8, a9, a10, a11, a12, a13, a14, a15] 4 =
    pcF shiftF a0 a1 a2 a3 ++ pcF shiftF a4 a5 a6 a7 ++ pcF shiftF a8 a9 a10 a11 ++ pcF shiftF a12 a13 a14 a15 := by
  kernel_rfl
def ap4 (g : BitVec 8 → BitVec 8 → BitVec 8 → BitVec 8 → List (BitVec 8)) : List (BitVec 8) → List (BitVec 8)
  | [a, b, c, d] => g a b c d
  | _ => []

theorem list4 {a b c d a' b' c' d' : BitVec 8} (h0 : a = a') (h1 : b = b') (h2 : c = c') (h3 : d = d') : [a, b, c, d] = [a', b', c', d'] := by rw [h0, h1, h2, h3]
/-- one line of mixed twice -/
theorem mc_line (f : BitVec 8 → BitVec 8) (hf : ∀ x y, f (x ^^^ y) = f x ^^^ f y) (a b c d : BitVec 8) (m0 m1 m2 m3 : BitVec 8) (h0 : m0 = b ^^^ (c ^^^ (d ^^^ (f a ^^^ f b)))) (h1 : m1 = a ^^^ (c ^^^ (d ^^^ (f b ^^^ f c))))
    (h2 : m2 = a ^^^ (b ^^^ (d ^^^ (f c ^^^ f d)))) (h3 : m3 = a ^^^ (b ^^^ (c ^^^ (f d ^^^ f a)))) : m0 ^^^ (m0 ^^^ m1 ^^^ m2 ^^^ m3 ^^^ f (m0 ^^^ m1)) = a ^^^ f (f (a ^^^ c)) := by
  have e1 : m0 ^^^ m1 = a ^^^ (b ^^^ (f a ^^^ f c)) := by
    rw [h0, h1]
    simp only [BitVec.xor_assoc, BitVec.xor_comm, xor_lc, xor_cancel]
  have e2 : m0 ^^^ (m0 ^^^ m1 ^^^ m2 ^^^ m3 ^^^ f (m0 ^^^ m1)) = m1 ^^^ (m2 ^^^ (m3 ^^^ f (m0 ^^^ m1))) := by
    simp only [BitVec.xor_assoc, xor_cancel]
  rw [e2, e1, hf a, hf b, hf (f a), hf a c, hf (f a), h1, h2, h3]
  simp only [BitVec.xor_assoc, BitVec.xor_comm, xor_lc, xor_cancel, BitVec.xor_self, BitVec.xor_zero]
theorem mc_forms (f : BitVec 8 → BitVec 8) (hf : ∀ x y, f (x ^^^ y) = f x ^^^ f y) (a b c d : BitVec 8) : a ^^^ (a ^^^ b ^^^ c ^^^ d ^^^ f (a ^^^ b)) = b ^^^ (c ^^^ (d ^^^ (f a ^^^ f b))) := by
  rw [hf]; simp only [BitVec.xor_assoc, xor_cancel]
theorem mc_mc (f : BitVec 8 → BitVec 8) (hf : ∀ x y, f (x ^^^ y) = f x ^^^ f y) (a b c d : BitVec 8) : ap4 (mcF f) (mcF f a b c d) = pcF f a b c d := by
  have l0 : a ^^^ (a ^^^ b ^^^ c ^^^ d ^^^ f (a ^^^ b)) = b ^^^ (c ^^^ (d ^^^ (f a ^^^ f b))) := by
    rw [hf]; simp only [BitVec.xor_assoc, BitVec.xor_comm, xor_lc, xor_cancel]
  have l1 : b ^^^ (a ^^^ b ^^^ c ^^^ d ^^^ f (b ^^^ c)) = a ^^^ (c ^^^ (d ^^^ (f b ^^^ f c))) := by
    rw [hf]; simp only [BitVec.xor_assoc, BitVec.xor_comm, xor_lc, xor_cancel]
  have l2 : c ^^^ (a ^^^ b ^^^ c ^^^ d ^^^ f (c ^^^ d)) = a ^^^ (b ^^^ (d ^^^ (f c ^^^ f d))) := by
    rw [hf]; simp only [BitVec.xor_assoc, BitVec.xor_comm, xor_lc, xor_cancel]
  have l3 : d ^^^ (a ^^^ b ^^^ c ^^^ d ^^^ f (d ^^^ a)) = a ^^^ (b ^^^ (c ^^^ (f d ^^^ f a))) := by
    rw [hf]; simp only [BitVec.xor_assoc, BitVec.xor_comm, xor_lc, xor_cancel]
  show mcF f _ _ _ _ = _
  revert l0 l1 l2 l3
  generalize a ^^^ (a ^^^ b ^^^ c ^^^ d ^^^ f (a ^^^ b)) = m0
  generalize b ^^^ (a ^^^ b ^^^ c ^^^ d ^^^ f (b ^^^ c)) = m1
  generalize c ^^^ (a ^^^ b ^^^ c ^^^ d ^^^ f (c ^^^ d)) = m2
  generalize d ^^^ (a ^^^ b ^^^ c ^^^ d ^^^ f (d ^^^ a)) = m3
  intro l0 l1 l2 l3
  have ac : ∀ x y z w : BitVec 8, x ^^^ (y ^^^ (z ^^^ w)) = y ^^^ (z ^^^ (x ^^^ w)) := fun x y z w => by simp only [BitVec.xor_comm, xor_lc]
  have r1 : m0 ^^^ m1 ^^^ m2 ^^^ m3 = m1 ^^^ m2 ^^^ m3 ^^^ m0 := by simp only [BitVec.xor_assoc, BitVec.xor_comm, xor_lc]
  have r2 : m0 ^^^ m1 ^^^ m2 ^^^ m3 = m2 ^^^ m3 ^^^ m0 ^^^ m1 := by simp only [BitVec.xor_assoc, BitVec.xor_comm, xor_lc]
  have r3 : m0 ^^^ m1 ^^^ m2 ^^^ m3 = m3 ^^^ m0 ^^^ m1 ^^^ m2 := by simp only [BitVec.xor_assoc, BitVec.xor_comm, xor_lc]
  refine list4 ?_ ?_ ?_ ?_
  · exact mc_line f hf a b c d m0 m1 m2 m3 l0 l1 l2 l3
  · rw [r1]
    exact mc_line f hf b c d a m1 m2 m3 m0 (by rw [l1]; simp only [BitVec.xor_comm, xor_lc]) (by rw [l2]; simp only [BitVec.xor_comm, xor_lc]) (by rw [l3]; simp only [BitVec.xor_comm, xor_lc]) (by rw [l0])
  · rw [r2, BitVec.xor_comm a c]
    exact mc_line f hf c d a b m2 m3 m0 m1 (by rw [l2]; simp only [BitVec.xor_comm, xor_lc]) (by rw [l3]; simp only [BitVec.xor_comm, xor_lc]) (by rw [l0]; simp only [BitVec.xor_comm, xor_lc]) (by rw [l1]; simp only [BitVec.xor_comm, xor_lc])
  · rw [r3, BitVec.xor_comm b d]
    exact mc_line f hf d a b c m3 m0 m1 m2 (by rw [l3]) (by rw [l0]; simp only [BitVec.xor_comm, xor_lc]) (by rw [l1]; simp only [BitVec.xor_comm, xor_lc]) (by rw [l2]; simp only [BitVec.xor_comm, xor_lc])

theorem pc_pc (f : BitVec 8 → BitVec 8) (hf : ∀ x y, f (x ^^^ y) = f x ^^^ f y) (a b c d : BitVec 8) : ap4 (pcF f) (pcF f a b c d) = [a, b, c, d] := by
  have e : ∀ x y z : BitVec 8, (x ^^^ z) ^^^ (y ^^^ z) = x ^^^ y := fun x y z => by simp only [BitVec.xor_assoc, BitVec.xor_comm, xor_lc, BitVec.xor_self, BitVec.xor_zero]
  have r : ∀ x y : BitVec 8, (x ^^^ y) ^^^ y = x := fun x y => by simp only [BitVec.xor_assoc, BitVec.xor_self, BitVec.xor_zero]
  show pcF f _ _ _ _ = _
  unfold pcF
  rw [e, e, r, r, r, r]

theorem ap4_four {g h : BitVec 8 → BitVec 8 → BitVec 8 → BitVec 8 → List (BitVec 8)} {l : List (BitVec 8)} (hl : l.length = 4) (e : ∀ a b c d, g a b c d = h a b c d) : ap4 g l = ap4 h l := by
  match l, hl with
  | [a, b, c, d], _ => exact e a b c d

theorem col_back (f : BitVec 8 → BitVec 8) (hf : ∀ x y, f (x ^^^ y) = f x ^^^ f y) (a b c d : BitVec 8) : ap4 (mcF f) (ap4 (pcF f) (mcF f a b c d)) = [a, b, c, d] := by
  have h1 : ap4 (pcF f) (mcF f a b c d) = ap4 (fun a b c d => ap4 (mcF f) (mcF f a b c d)) (mcF f a b c d) := ap4_four rfl (fun a b c d => (mc_mc f hf a b c d).symm)
  have h2 : ap4 (fun a b c d => ap4 (mcF f) (mcF f a b c d)) (mcF f a b c d) = ap4 (mcF f) (pcF f a b c d) := congrArg (ap4 (mcF f)) (mc_mc f hf a b c d)
  rw [h1, h2]
  have h3 : ap4 (mcF f) (ap4 (mcF f) (pcF f a b c d)) = ap4 (pcF f) (pcF f a b c d) := mc_mc f hf _ _ _ _
  rw [h3, pc_pc f hf]
theorem col_forth (f : BitVec 8 → BitVec 8) (hf : ∀ x y, f (x ^^^ y) = f x ^^^ f y) (a b c d : BitVec 8) : ap4 (mcF f) (ap4 (mcF f) (pcF f a b c d)) = [a, b, c, d] := by
  have h3 : ap4 (mcF f) (ap4 (mcF f) (pcF f a b c d)) = ap4 (pcF f) (pcF f a b c d) := mc_mc f hf _ _ _ _
  rw [h3, pc_pc f hf]

theorem four {l0 l1 l2 l3 r0 r1 r2 r3 : List (BitVec 8)} (h0 : l0 = r0) (h1 : l1 = r1) (h2 : l2 = r2) (h3 : l3 = r3) : l0 ++ l1 ++ l2 ++ l3 = r0 ++ r1 ++ r2 ++ r3 := by rw [h0, h1, h2, h3]

theorem unmix_mix (s : List (BitVec 8)) (hs : s.length = 16) : unmixF (mixF s) = s := by
  obtain ⟨a0, a1, a2, a3, a4, a5, a6, a7, a8, a9, a10, a11, a12, a13, a14, a15, rfl⟩ := list16 s hs
  rw [mixF_list]
  simp only [mcF, List.cons_append, List.nil_append]
  unfold unmixF
  rw [preI_list]
  simp only [pcF, List.cons_append, List.nil_append]
  rw [mixF_list]
  exact four (col_back shiftF shiftF_xor a0 a1 a2 a3) (col_back shiftF shiftF_xor a4 a5 a6 a7) (col_back shiftF shiftF_xor a8 a9 a10 a11) (col_back shiftF shiftF_xor a12 a13 a14 a15)

theorem mix_unmix (s : List (BitVec 8)) (hs : s.length = 16) : mixF (unmixF s) = s := by
  obtain ⟨a0, a1, a2, a3, a4, a5, a6, a7, a8, a9, a10, a11, a12, a13, a14, a15, rfl⟩ := list16 s hs
  unfold unmixF
  rw [preI_list]
  simp only [pcF, List.cons_append, List.nil_append]
  rw [mixF_list]
  simp only [mcF, List.cons_append, List.nil_append]
  rw [mixF_list]
  exact four (col_forth shiftF shiftF_xor a0 a1 a2 a3) (col_forth shiftF shiftF_xor a4 a5 a6 a7) (col_forth shiftF shiftF_xor a8 a9 a10 a11) (col_forth shiftF shiftF_xor a12 a13 a14 a15)

theorem ext16 {l r : List (BitVec 8)} (h1 : l.length = 16) (h2 : r.length = 16) (hi : ∀ i, i < 16 → l.getD i 0 = r.getD i 0) : l = r := by
  refine List.ext_getElem (h1.trans h2.symm) fun i q1 q2 => ?_
  have := hi i (by omega)
  rwa [List.getD_eq_getElem?_getD, List.getD_eq_getElem?_getD, List.getElem?_eq_getElem q1, List.getElem?_eq_getElem q2] at this

theorem xorI_at (s k : List (BitVec 8)) (hs : s.length = 16) : ∀ n, n ≤ 16 → ∀ i, (xorI s k n).getD i 0 = if i < n then s.getD i 0 ^^^ k.getD i 0 else s.getD i 0
  | 0, _, i => by simp [xorI]
  | n + 1, hn, i => by
    rw [xorI, getD_set (by rw [xorI_length, hs]; omega)]
    by_cases h : i = n
    · subst h
      rw [if_pos rfl, xorI_at s k hs i (by omega) i, if_neg (Nat.lt_irrefl _), if_pos (Nat.lt_succ_self _)]
    · rw [if_neg h, xorI_at s k hs n (by omega) i]
      by_cases h2 : i < n
      · rw [if_pos h2, if_pos (by omega)]
      · rw [if_neg h2, if_neg (by omega)]
theorem xorF_at (s k : List (BitVec 8)) (hs : s.length = 16) (i : Nat) (hi : i < 16) : (xorF s k).getD i 0 = s.getD i 0 ^^^ k.getD i 0 := by
  rw [xorF, xorI_at s k hs 16 (Nat.le_refl _) i, if_pos hi]
theorem xor_xor (s k : List (BitVec 8)) (hs : s.length = 16) : xorF (xorF s k) k = s := by
  have h1 : (xorF s k).length = 16 := by rw [xorF_length, hs]
  refine ext16 (by rw [xorF_length, h1]) hs fun i hi => ?_
  rw [xorF_at _ k h1 i hi, xorF_at s k hs i hi, BitVec.xor_assoc, BitVec.xor_self, BitVec.xor_zero]

def sg (i : Nat) : Nat := (i + 4 * (i % 4)) % 16
theorem sg_inj : ∀ i, i < 16 → ∀ j, j < 16 → sg i = sg j → i = j := by decide
theorem sg_onto : ∀ i, i < 16 → ∃ j, j < 16 ∧ sg j = i := by decide
theorem sg_lt (i : Nat) : sg i < 16 := Nat.mod_lt _ (by decide)

theorem subI_at (s : List (BitVec 8)) : ∀ n, n ≤ 16 → ∀ i, i < n → (subI s n).getD i 0 = sboxF (s.getD (sg i) 0)
  | 0, _, i, hi => by omega
  | n + 1, hn, i, hi => by
    rw [subI, getD_set (by rw [subI_length]; omega)]
    by_cases h : i = n
    · subst h; rw [if_pos rfl]; rfl
    · rw [if_neg h]
      exact subI_at s n (by omega) i (by omega)
theorem usubI_at (s : List (BitVec 8)) : ∀ n, n ≤ 16 → ∀ i, i < n → (usubI s n).getD (sg i) 0 = usboxF (s.getD i 0)
  | 0, _, i, hi => by omega
  | n + 1, hn, i, hi => by
    rw [usubI, show (n + 4 * (n % 4)) % 16 = sg n from rfl, getD_set (by rw [usubI_length]; exact sg_lt n)]
    by_cases h : i = n
    · subst h; rw [if_pos rfl]
    · rw [if_neg (fun e => h (sg_inj i (by omega) n (by omega) e))]
      exact usubI_at s n (by omega) i (by omega)
theorem usub_sub (s : List (BitVec 8)) (hs : s.length = 16) : usubI (subI s 16) 16 = s := by
  refine ext16 (usubI_length _ _) hs fun i hi => ?_
  obtain ⟨j, hj, rfl⟩ := sg_onto i hi
  rw [usubI_at _ 16 (Nat.le_refl _) j hj, subI_at _ 16 (Nat.le_refl _) j hj, (box_back _).1]
theorem sub_usub (s : List (BitVec 8)) (hs : s.length = 16) : subI (usubI s 16) 16 = s := by
  refine ext16 (subI_length _ _) hs fun i hi => ?_
  rw [subI_at _ 16 (Nat.le_refl _) i hi, usubI_at _ 16 (Nat.le_refl _) i hi, (box_back _).2]

theorem dec_enc (ks : List (List (BitVec 8))) (a : List (BitVec 8)) (ha : a.length = 16) : decF ks (encI ks a 14) = a := by
  have key : ∀ k, k ≤ 14 → decI ks (encI ks a 14) k = encI ks a (14 - k) := by
    intro k
    induction k with
    | zero => intro _; rfl
    | succ k ih =>
      intro hk
      have hl := encI_length ks a ha (14 - (k + 1))
      rw [decI, ih (by omega)]
      have e : 14 - k = 14 - (k + 1) + 1 := by omega
      have e2 : encI ks a (14 - k) = xorF (if 14 - k < 14 then mixF (subI (encI ks a (14 - (k + 1))) 16) else subI (encI ks a (14 - (k + 1))) 16) (ks.getD (14 - k) []) := by
        rw [e]; rfl
      unfold decT
      rw [e2]
      by_cases h : 14 - k < 14
      · simp only [if_pos h]
        rw [xor_xor _ _ (by rw [mixF_length, subI_length]), unmix_mix _ (subI_length _ _), usub_sub _ hl]
      · simp only [if_neg h]
        rw [xor_xor _ _ (subI_length _ _), usub_sub _ hl]
  rw [decF, key 14 (Nat.le_refl _)]
  exact xor_xor a _ ha

theorem enc_dec (ks : List (List (BitVec 8))) (b : List (BitVec 8)) (hb : b.length = 16) : encI ks (decF ks b) 14 = b := by
  have key : ∀ n, n ≤ 14 → encI ks (decF ks b) n = decI ks b (14 - n) := by
    intro n
    induction n with
    | zero => intro _; exact xor_xor _ _ (decI_length ks b hb 14)
    | succ n ih =>
      intro hn
      have hl := decI_length ks b hb (14 - (n + 1))
      have hx : (xorF (decI ks b (14 - (n + 1))) (ks.getD (n + 1) [])).length = 16 := by rw [xorF_length, hl]
      rw [encI, ih (by omega)]
      have e : 14 - n = 14 - (n + 1) + 1 := by omega
      have e2 : decI ks b (14 - n) = usubI (decT ks (14 - (n + 1)) (decI ks b (14 - (n + 1)))) 16 := by rw [e]; rfl
      have e3 : 14 - (14 - (n + 1)) = n + 1 := by omega
      rw [e2]
      unfold decT
      rw [e3]
      by_cases h : n + 1 < 14
      · simp only [if_pos h]
        rw [sub_usub _ (by rw [unmixF_length, hx]), mix_unmix _ hx, xor_xor _ _ hl]
      · simp only [if_neg h]
        rw [sub_usub _ hx, xor_xor _ _ hl]
  exact key 14 (Nat.le_refl _)
end Go.Proofs.YtljkjdhkofbgmaaDoor.Av
