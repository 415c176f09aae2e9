import Derived.Test.YtljkjdhkofbgmaaDoorTab
namespace Go.Proofs.YtljkjdhkofbgmaaDoor.Av
open Go
set_option linter.all false
set_option maxRecDepth 3000

/-! layer 1 and the boxes: what the code computes, and that it does -/
def shiftF (a : BitVec 8) : BitVec 8 := if a &&& 128 = 0 then a <<< 1 else (a <<< 1) ^^^ 27

theorem shift_ac (a : BitVec 8) : AC Tryd.prog 70 [.u8 a] 0 [] ⟨.u8 (shiftF a), [], []⟩ := by
  refine ac_of tab mix Tryd.func70 rfl (by kernel_rfl) (by kernel_rfl) (by kernel_rfl) {} ?_
  repeat first | refine EffG.mk (And.intro trivial ?_) | refine And.intro trivial ?_ | refine chkG (by kernel_rfl) ?_ | refine Br.yes rfl ?_ | refine Br.no rfl ?_
  refine Br.split (fun h => ?_) (fun h => ?_)
  · repeat first | refine EffG.mk (And.intro trivial ?_) | refine And.intro trivial ?_ | refine chkG (by kernel_rfl) ?_ | refine Br.yes rfl ?_ | refine Br.no rfl ?_
    refine retG [] ?_ rfl trivial rfl
    refine congrArg D.u8 ?_
    have h : ¬ (a &&& 128 = 0) := by simpa using h
    exact (if_neg h).symm
  · repeat first | refine EffG.mk (And.intro trivial ?_) | refine And.intro trivial ?_ | refine chkG (by kernel_rfl) ?_ | refine Br.yes rfl ?_ | refine Br.no rfl ?_
    refine retG [] ?_ rfl trivial rfl
    refine congrArg D.u8 ?_
    have h : (a &&& 128 = 0) := by simpa using h
    exact (if_pos h).symm

theorem double_ac (a : BitVec 8) : AC Tryd.prog 57 [.u8 a] 0 [] ⟨.u8 (shiftF a), [], []⟩ := by
  refine ac_of tab mix Tryd.func57 rfl (by kernel_rfl) (by kernel_rfl) (by kernel_rfl) {} ?_
  repeat first | refine EffG.mk (And.intro trivial ?_) | refine And.intro trivial ?_ | refine chkG (by kernel_rfl) ?_ | refine Br.yes rfl ?_ | refine Br.no rfl ?_
  refine Br.split (fun h => ?_) (fun h => ?_)
  · repeat first | refine EffG.mk (And.intro trivial ?_) | refine And.intro trivial ?_ | refine chkG (by kernel_rfl) ?_ | refine Br.yes rfl ?_ | refine Br.no rfl ?_
    refine retG [] ?_ rfl trivial rfl
    refine congrArg D.u8 ?_
    have h : ¬ (a &&& 128 = 0) := by simpa using h
    exact (if_neg h).symm
  · repeat first | refine EffG.mk (And.intro trivial ?_) | refine And.intro trivial ?_ | refine chkG (by kernel_rfl) ?_ | refine Br.yes rfl ?_ | refine Br.no rfl ?_
    refine retG [] ?_ rfl trivial rfl
    refine congrArg D.u8 ?_
    have h : (a &&& 128 = 0) := by simpa using h
    exact (if_pos h).symm

def mulS (x : BitVec 8 × BitVec 8 × BitVec 8) : BitVec 8 × BitVec 8 × BitVec 8 := (shiftF x.1, x.2.1 >>> 1, if x.2.1 &&& 1 = 0 then x.2.2 else x.2.2 ^^^ x.1)
def mulI (a b : BitVec 8) : Nat → BitVec 8 × BitVec 8 × BitVec 8
  | 0 => (a, b, 0)
  | n + 1 => mulS (mulI a b n)
def mulF (a b : BitVec 8) : BitVec 8 := (mulI a b 8).2.2

theorem mul_ac (a b : BitVec 8) : AC Tryd.prog 56 [.u8 a, .u8 b] 0 [] ⟨.u8 (mulF a b), [], []⟩ := by
  refine ac_of tab mix Tryd.func56 rfl (by kernel_rfl) (by kernel_rfl) (by kernel_rfl) {} ?_
  repeat first | refine EffG.mk (And.intro trivial ?_) | refine And.intro trivial ?_ | refine chkG (by kernel_rfl) ?_ | refine Br.yes rfl ?_ | refine Br.no rfl ?_
  refine loopG Nat (fun k => [(0, .u8 (mulI a b k).1), (1, .u8 (mulI a b k).2.1), (5, .u8 (mulI a b k).2.2), (6, .i64 k)]) (fun _ => []) 0 (fun k => k ≤ 8) (fun k => 8 - k) 0 [] (Nat.zero_le _) ?_ ?_
  · exact viewG rfl ⟨rfl, rfl, rfl, rfl, trivial⟩ trivial rfl
  intro k hk
  repeat first | refine EffG.mk (And.intro trivial ?_) | refine And.intro trivial ?_ | refine chkG (by kernel_rfl) ?_ | refine Br.yes rfl ?_ | refine Br.no rfl ?_
  refine Br.split (fun h => ?_) (fun h => ?_)
  · have hk : k < 8 := by have := of_decide_eq_true h; omega
    repeat first | refine EffG.mk (And.intro trivial ?_) | refine And.intro trivial ?_ | refine chkG (by kernel_rfl) ?_ | refine Br.yes rfl ?_ | refine Br.no rfl ?_
    refine Br.split (fun h => ?_) (fun h => ?_)
    · repeat first | refine EffG.mk (And.intro trivial ?_) | refine And.intro trivial ?_ | refine chkG (by kernel_rfl) ?_ | refine Br.yes rfl ?_ | refine Br.no rfl ?_
      refine callG (shift_ac _) [] rfl rfl trivial rfl rfl ?_
      repeat first | refine EffG.mk (And.intro trivial ?_) | refine And.intro trivial ?_ | refine chkG (by kernel_rfl) ?_ | refine Br.yes rfl ?_ | refine Br.no rfl ?_
      refine EffG.mk (And.intro (by omega) ?_)
      refine EffG.mk (And.intro trivial ?_)
      refine nextG (k + 1) [] (by omega) (by omega) (viewG rfl ⟨rfl, rfl, ?_, rfl, trivial⟩ trivial rfl)
      have h : ¬ ((mulI a b k).2.1 &&& 1 = 0) := by simpa using h
      refine congrArg some (congrArg D.u8 ?_)
      exact (if_neg h).symm
    · repeat first | refine EffG.mk (And.intro trivial ?_) | refine And.intro trivial ?_ | refine chkG (by kernel_rfl) ?_ | refine Br.yes rfl ?_ | refine Br.no rfl ?_
      refine callG (shift_ac _) [] rfl rfl trivial rfl rfl ?_
      repeat first | refine EffG.mk (And.intro trivial ?_) | refine And.intro trivial ?_ | refine chkG (by kernel_rfl) ?_ | refine Br.yes rfl ?_ | refine Br.no rfl ?_
      refine EffG.mk (And.intro (by omega) ?_)
      refine EffG.mk (And.intro trivial ?_)
      refine nextG (k + 1) [] (by omega) (by omega) (viewG rfl ⟨rfl, rfl, ?_, rfl, trivial⟩ trivial rfl)
      have h : ((mulI a b k).2.1 &&& 1 = 0) := by simpa using h
      refine congrArg some (congrArg D.u8 ?_)
      exact (if_pos h).symm
  · have hk : k = 8 := by have := of_decide_eq_false h; omega
    subst hk
    repeat first | refine EffG.mk (And.intro trivial ?_) | refine And.intro trivial ?_ | refine chkG (by kernel_rfl) ?_ | refine Br.yes rfl ?_ | refine Br.no rfl ?_
    refine retG [] rfl rfl trivial rfl

/-- a power by squaring: what is left to do -/
def powR : Nat → BitVec 8 → Int → BitVec 8 → BitVec 8
  | 0, _, _, p => p
  | f + 1, a, n, p => if n ≤ 0 then p else powR f (mulF a a) (n / 2) (if (BitVec.ofInt 64 n &&& BitVec.ofInt 64 1).toInt = 0 then p else mulF p a)
def powF (a : BitVec 8) (n : Int) : BitVec 8 := powR 8 a n 1

/-- for a base other than nothing, and a small exponent that is not less than nothing -/
theorem powR_stop (f : Nat) (a : BitVec 8) (n : Int) (p : BitVec 8) (h : n ≤ 0) : powR f a n p = p := by
  cases f with
  | zero => rfl
  | succ f => exact if_pos h

end Go.Proofs.YtljkjdhkofbgmaaDoor.Av
