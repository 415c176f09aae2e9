import Derived.Test.YtdnfagiajenfjaaTab
namespace Go.Proofs.Ytdnfagiajenfjaa.Av
open Go
set_option linter.all false

/-! layer 1 and the boxes: what the code computes, and that it does -/
def shiftF (a : BitVec 8) : BitVec 8 := if a &&& 128 = 0 then a <<< 1 else (a <<< 1) ^^^ 27

theorem shift_ac (a : BitVec 8) : AC Try.prog 18 [.u8 a] 0 [] ⟨.u8 (shiftF a), [], []⟩ := by
  refine ac_of tab mix Try.func18 rfl (by kernel_rfl) (by kernel_rfl) (by kernel_rfl) {} ?_
  repeat first | refine EffG.mk (And.intro trivial ?_) | refine And.intro trivial ?_ | refine chkG (by kernel_rfl) ?_ | refine Br.yes rfl ?_ | refine Br.no rfl ?_
  refine Br.split (fun h => ?_) (fun h => ?_)
  · repeat first | refine EffG.mk (And.intro trivial ?_) | refine And.intro trivial ?_ | refine chkG (by kernel_rfl) ?_ | refine Br.yes rfl ?_ | refine Br.no rfl ?_
    refine retG [] ?_ rfl trivial rfl
    refine congrArg D.u8 ?_
    have h : ¬ (a &&& 128 = 0) := by simpa using h
    exact (if_neg h).symm
  · repeat first | refine EffG.mk (And.intro trivial ?_) | refine And.intro trivial ?_ | refine chkG (by kernel_rfl) ?_ | refine Br.yes rfl ?_ | refine Br.no rfl ?_
    refine retG [] ?_ rfl trivial rfl
    refine congrArg D.u8 ?_
    have h : (a &&& 128 = 0) := by simpa using h
    exact (if_pos h).symm

theorem double_ac (a : BitVec 8) : AC Try.prog 21 [.u8 a] 0 [] ⟨.u8 (shiftF a), [], []⟩ := by
  refine ac_of tab mix Try.func21 rfl (by kernel_rfl) (by kernel_rfl) (by kernel_rfl) {} ?_
  repeat first | refine EffG.mk (And.intro trivial ?_) | refine And.intro trivial ?_ | refine chkG (by kernel_rfl) ?_ | refine Br.yes rfl ?_ | refine Br.no rfl ?_
  refine Br.split (fun h => ?_) (fun h => ?_)
  · repeat first | refine EffG.mk (And.intro trivial ?_) | refine And.intro trivial ?_ | refine chkG (by kernel_rfl) ?_ | refine Br.yes rfl ?_ | refine Br.no rfl ?_
    refine retG [] ?_ rfl trivial rfl
    refine congrArg D.u8 ?_
    have h : ¬ (a &&& 128 = 0) := by simpa using h
    exact (if_neg h).symm
  · repeat first | refine EffG.mk (And.intro trivial ?_) | refine And.intro trivial ?_ | refine chkG (by kernel_rfl) ?_ | refine Br.yes rfl ?_ | refine Br.no rfl ?_
    refine retG [] ?_ rfl trivial rfl
    refine congrArg D.u8 ?_
    have h : (a &&& 128 = 0) := by simpa using h
    exact (if_pos h).symm

def mulS (x : BitVec 8 × BitVec 8 × BitVec 8) : BitVec 8 × BitVec 8 × BitVec 8 := (shiftF x.1, x.2.1 >>> 1, if x.2.1 &&& 1 = 0 then x.2.2 else x.2.2 ^^^ x.1)
def mulI (a b : BitVec 8) : Nat → BitVec 8 × BitVec 8 × BitVec 8
  | 0 => (a, b, 0)
  | n + 1 => mulS (mulI a b n)
def mulF (a b : BitVec 8) : BitVec 8 := (mulI a b 8).2.2

theorem mul_ac (a b : BitVec 8) : AC Try.prog 13 [.u8 a, .u8 b] 0 [] ⟨.u8 (mulF a b), [], []⟩ := by
  refine ac_of tab mix Try.func13 rfl (by kernel_rfl) (by kernel_rfl) (by kernel_rfl) {} ?_
  repeat first | refine EffG.mk (And.intro trivial ?_) | refine And.intro trivial ?_ | refine chkG (by kernel_rfl) ?_ | refine Br.yes rfl ?_ | refine Br.no rfl ?_
  refine loopG Nat (fun k => [(0, .u8 (mulI a b k).1), (1, .u8 (mulI a b k).2.1), (5, .u8 (mulI a b k).2.2), (6, .i64 k)]) (fun _ => []) 0 (fun k => k ≤ 8) (fun k => 8 - k) 0 [] (Nat.zero_le _) ?_ ?_
  · exact viewG rfl ⟨rfl, rfl, rfl, rfl, trivial⟩ trivial rfl
  intro k hk
  repeat first | refine EffG.mk (And.intro trivial ?_) | refine And.intro trivial ?_ | refine chkG (by kernel_rfl) ?_ | refine Br.yes rfl ?_ | refine Br.no rfl ?_
  refine Br.split (fun h => ?_) (fun h => ?_)
  · have hk : k < 8 := by have := of_decide_eq_true h; omega
    repeat first | refine EffG.mk (And.intro trivial ?_) | refine And.intro trivial ?_ | refine chkG (by kernel_rfl) ?_ | refine Br.yes rfl ?_ | refine Br.no rfl ?_
    refine Br.split (fun h => ?_) (fun h => ?_)
    · repeat first | refine EffG.mk (And.intro trivial ?_) | refine And.intro trivial ?_ | refine chkG (by kernel_rfl) ?_ | refine Br.yes rfl ?_ | refine Br.no rfl ?_
      refine callG (shift_ac _) [] rfl rfl trivial rfl rfl ?_
      repeat first | refine EffG.mk (And.intro trivial ?_) | refine And.intro trivial ?_ | refine chkG (by kernel_rfl) ?_ | refine Br.yes rfl ?_ | refine Br.no rfl ?_
      refine EffG.mk (And.intro (by omega) ?_)
      refine EffG.mk (And.intro trivial ?_)
      refine nextG (k + 1) [] (by omega) (by omega) (viewG rfl ⟨rfl, rfl, ?_, rfl, trivial⟩ trivial rfl)
      have h : ¬ ((mulI a b k).2.1 &&& 1 = 0) := by simpa using h
      refine congrArg some (congrArg D.u8 ?_)
      exact (if_neg h).symm
    · repeat first | refine EffG.mk (And.intro trivial ?_) | refine And.intro trivial ?_ | refine chkG (by kernel_rfl) ?_ | refine Br.yes rfl ?_ | refine Br.no rfl ?_
      refine callG (shift_ac _) [] rfl rfl trivial rfl rfl ?_
      repeat first | refine EffG.mk (And.intro trivial ?_) | refine And.intro trivial ?_ | refine chkG (by kernel_rfl) ?_ | refine Br.yes rfl ?_ | refine Br.no rfl ?_
      refine EffG.mk (And.intro (by omega) ?_)
      refine EffG.mk (And.intro trivial ?_)
      refine nextG (k + 1) [] (by omega) (by omega) (viewG rfl ⟨rfl, rfl, ?_, rfl, trivial⟩ trivial rfl)
      have h : ((mulI a b k).2.1 &&& 1 = 0) := by simpa using h
      refine congrArg some (congrArg D.u8 ?_)
      exact (if_pos h).symm
  · have hk : k = 8 := by have := of_decide_eq_false h; omega
    subst hk
    repeat first | refine EffG.mk (And.intro trivial ?_) | refine And.intro trivial ?_ | refine chkG (by kernel_rfl) ?_ | refine Br.yes rfl ?_ | refine Br.no rfl ?_
    refine retG [] rfl rfl trivial rfl

/-- a power by squaring: what is left to do -/
def powR : Nat → BitVec 8 → Int → BitVec 8 → BitVec 8
  | 0, _, _, p => p
  | f + 1, a, n, p => if n ≤ 0 then p else powR f (mulF a a) (n / 2) (if (BitVec.ofInt 64 n &&& BitVec.ofInt 64 1).toInt = 0 then p else mulF p a)
def powF (a : BitVec 8) (n : Int) : BitVec 8 := powR 8 a n 1

/-- for a base other than nothing, and a small exponent that is not less than nothing -/
theorem powR_stop (f : Nat) (a : BitVec 8) (n : Int) (p : BitVec 8) (h : n ≤ 0) : powR f a n p = p := by
  cases f with
  | zero => rfl
  | succ f => exact if_pos h

theorem power_ac (a : BitVec 8) (n : Int) (h0 : 0 ≤ n) (h1 : n < 255) : AC Try.prog 7 [.u8 a, .i64 n] 0 [] ⟨.u8 (if a = 0 ∧ n ≠ 0 then 0 else powF a n), [], []⟩ := by
  have hrem : Int.tmod n 255 = n := Int.tmod_eq_of_lt h0 h1
  refine ac_of tab mix Try.func7 rfl (by kernel_rfl) (by kernel_rfl) (by kernel_rfl) ⟨[3, 11], []⟩ ?_
  repeat first | refine EffG.mk (And.intro trivial ?_) | refine And.intro trivial ?_ | refine chkG (by kernel_rfl) ?_ | refine Br.yes rfl ?_ | refine Br.no rfl ?_
  refine joinG Unit (fun _ => [(0, .u8 a), (1, .i64 n)]) (fun _ => []) 0 (fun _ => ¬ (a = 0 ∧ n ≠ 0)) ?_ ?_
  · repeat first | refine EffG.mk (And.intro trivial ?_) | refine And.intro trivial ?_ | refine chkG (by kernel_rfl) ?_ | refine Br.yes rfl ?_ | refine Br.no rfl ?_
    refine Br.split (fun ha => ?_) (fun ha => ?_)
    · have ha : a = 0 := by simpa using ha
      repeat first | refine EffG.mk (And.intro trivial ?_) | refine And.intro trivial ?_ | refine chkG (by kernel_rfl) ?_ | refine Br.yes rfl ?_ | refine Br.no rfl ?_
      refine Br.split (fun hn => ?_) (fun hn => ?_)
      · have hn : n ≠ 0 := by simpa using hn
        repeat first | refine EffG.mk (And.intro trivial ?_) | refine And.intro trivial ?_ | refine chkG (by kernel_rfl) ?_ | refine Br.yes rfl ?_ | refine Br.no rfl ?_
        refine retG [] ?_ rfl trivial rfl
        refine congrArg D.u8 ?_
        exact (if_pos ⟨ha, hn⟩).symm
      · have hn : n = 0 := by simpa using hn
        exact meetG () [] (fun h => h.2 hn) (viewG rfl ⟨rfl, rfl, trivial⟩ trivial rfl)
    · have ha : ¬ a = 0 := by simpa using ha
      repeat first | refine EffG.mk (And.intro trivial ?_) | refine And.intro trivial ?_ | refine chkG (by kernel_rfl) ?_ | refine Br.yes rfl ?_ | refine Br.no rfl ?_
      exact meetG () [] (fun h => ha h.1) (viewG rfl ⟨rfl, rfl, trivial⟩ trivial rfl)
  intro _ hne
  rw [if_neg hne]
  repeat first | refine EffG.mk (And.intro trivial ?_) | refine And.intro trivial ?_ | refine chkG (by kernel_rfl) ?_ | refine Br.yes rfl ?_ | refine Br.no rfl ?_
  refine EffG.mk (And.intro (by decide) ?_)
  refine EffG.mk (And.intro trivial ?_)
  repeat first | refine EffG.mk (And.intro trivial ?_) | refine And.intro trivial ?_ | refine chkG (by kernel_rfl) ?_ | refine Br.yes rfl ?_ | refine Br.no rfl ?_
  rw [hrem]
  refine Br.split (fun h => absurd (of_decide_eq_true h) (by omega)) (fun _ => ?_)
  repeat first | refine EffG.mk (And.intro trivial ?_) | refine And.intro trivial ?_ | refine chkG (by kernel_rfl) ?_ | refine Br.yes rfl ?_ | refine Br.no rfl ?_
  refine loopG (Nat × BitVec 8 × Int × BitVec 8) (fun x => [(0, .u8 x.2.1), (1, .i64 x.2.2.1), (5, .u8 x.2.2.2)]) (fun _ => []) 0
    (fun x => powR x.1 x.2.1 x.2.2.1 x.2.2.2 = powF a n ∧ 0 ≤ x.2.2.1 ∧ x.2.2.1 < 2 ^ x.1 ∧ x.1 ≤ 8) (fun x => x.1) (8, a, n, 1) [] ⟨rfl, h0, by simp only; omega, Nat.le_refl _⟩ ?_ ?_
  · exact viewG rfl ⟨rfl, rfl, rfl, trivial⟩ trivial rfl
  rintro ⟨f, a', n', p⟩ ⟨h2, h3, h4, h5⟩
  repeat first | refine EffG.mk (And.intro trivial ?_) | refine And.intro trivial ?_ | refine chkG (by kernel_rfl) ?_ | refine Br.yes rfl ?_ | refine Br.no rfl ?_
  refine Br.split (fun h => ?_) (fun h => ?_)
  · have hn : 0 < n' := of_decide_eq_true h
    obtain ⟨f, rfl⟩ : ∃ g, f = g + 1 := by
      cases f with
      | zero => exfalso; simp only [Int.pow_zero] at h4; simp only at h3; omega
      | succ g => exact ⟨g, rfl⟩
    have h2 : powR f (mulF a' a') (n' / 2) (if (BitVec.ofInt 64 n' &&& BitVec.ofInt 64 1).toInt = 0 then p else mulF p a') = powF a n := by
      rw [← h2]; exact (if_neg (by simp only; omega)).symm
    repeat first | refine EffG.mk (And.intro trivial ?_) | refine And.intro trivial ?_ | refine chkG (by kernel_rfl) ?_ | refine Br.yes rfl ?_ | refine Br.no rfl ?_
    refine joinG Unit (fun _ => [(0, .u8 a'), (1, .i64 n'), (5, .u8 (if (BitVec.ofInt 64 n' &&& BitVec.ofInt 64 1).toInt = 0 then p else mulF p a'))]) (fun _ => []) 0 (fun _ => True) ?_ ?_
    · repeat first | refine EffG.mk (And.intro trivial ?_) | refine And.intro trivial ?_ | refine chkG (by kernel_rfl) ?_ | refine Br.yes rfl ?_ | refine Br.no rfl ?_
      refine Br.split (fun h => ?_) (fun h => ?_)
      · have h : ¬ (BitVec.ofInt 64 n' &&& BitVec.ofInt 64 1).toInt = 0 := by
          intro e; rw [e] at h; exact absurd h (by decide)
        rw [if_neg h]
        repeat first | refine EffG.mk (And.intro trivial ?_) | refine And.intro trivial ?_ | refine chkG (by kernel_rfl) ?_ | refine Br.yes rfl ?_ | refine Br.no rfl ?_
        refine callG (mul_ac _ _) [] rfl rfl trivial rfl rfl ?_
        repeat first | refine EffG.mk (And.intro trivial ?_) | refine And.intro trivial ?_ | refine chkG (by kernel_rfl) ?_ | refine Br.yes rfl ?_ | refine Br.no rfl ?_
        exact meetG () [] trivial (viewG rfl ⟨rfl, rfl, rfl, trivial⟩ trivial rfl)
      · have h : (BitVec.ofInt 64 n' &&& BitVec.ofInt 64 1).toInt = 0 := by
          have h := h; simpa using h
        rw [if_pos h]
        repeat first | refine EffG.mk (And.intro trivial ?_) | refine And.intro trivial ?_ | refine chkG (by kernel_rfl) ?_ | refine Br.yes rfl ?_ | refine Br.no rfl ?_
        exact meetG () [] trivial (viewG rfl ⟨rfl, rfl, rfl, trivial⟩ trivial rfl)
    · intro _ _
      repeat first | refine EffG.mk (And.intro trivial ?_) | refine And.intro trivial ?_ | refine chkG (by kernel_rfl) ?_ | refine Br.yes rfl ?_ | refine Br.no rfl ?_
      refine callG (mul_ac _ _) [] rfl rfl trivial rfl rfl ?_
      repeat first | refine EffG.mk (And.intro trivial ?_) | refine And.intro trivial ?_ | refine chkG (by kernel_rfl) ?_ | refine Br.yes rfl ?_ | refine Br.no rfl ?_
      refine EffG.mk (And.intro ⟨trivial, by decide⟩ ?_)
      repeat first | refine EffG.mk (And.intro trivial ?_) | refine And.intro trivial ?_ | refine chkG (by kernel_rfl) ?_ | refine Br.yes rfl ?_ | refine Br.no rfl ?_
      have h6 : n' / 2 < 2 ^ f := by
        have : (2 : Int) ^ (f + 1) = 2 ^ f * 2 := Int.pow_succ 2 f
        simp only at h4
        omega
      exact nextG (f, mulF a' a', n' / 2, _) [] ⟨h2, Int.ediv_nonneg h3 (by decide), h6, by simp only at h5 ⊢; omega⟩ (by simp only; omega) (viewG rfl ⟨rfl, rfl, rfl, trivial⟩ trivial rfl)
  · have hn : ¬ 0 < n' := of_decide_eq_false h
    rw [powR_stop _ _ _ _ (by simp only; omega)] at h2
    repeat first | refine EffG.mk (And.intro trivial ?_) | refine And.intro trivial ?_ | refine chkG (by kernel_rfl) ?_ | refine Br.yes rfl ?_ | refine Br.no rfl ?_
    refine retG [] ?_ rfl trivial rfl
    exact congrArg D.u8 h2
end Go.Proofs.Ytdnfagiajenfjaa.Av
