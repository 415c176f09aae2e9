import Derived.Test.YtljkjdhkofbgmaaDoorShc
namespace Go.Proofs.YtljkjdhkofbgmaaDoor.Av
open Go
set_option linter.all false
set_option maxRecDepth 3000

/-! a message in pieces -/
theorem rdI_congr {bs cs : List (BitVec 8)} {o p : Nat} : ∀ {k : Nat}, (∀ i, i < k → bs.getD (o + i) 0 = cs.getD (p + i) 0) → rdI bs o k = rdI cs p k
  | 0, _ => rfl
  | k + 1, h => by rw [rdI, rdI, rdI_congr (k := k) (fun i hi => h i (by omega)), h k (by omega)]
theorem wI_congr {bs cs : List (BitVec 8)} {o p : Nat} (h : ∀ i, i < 64 → bs.getD (o + i) 0 = cs.getD (p + i) 0) : ∀ t, wI bs o t = wI cs p t
  | 0 => rfl
  | t + 1 => by
    rw [wI, wI, wI_congr h t]
    split
    · rw [rdI_congr (bs := bs) (cs := cs) (o := o + 4 * t) (p := p + 4 * t) (fun i hi => by rw [Nat.add_assoc, Nat.add_assoc]; exact h (4 * t + i) (by omega))]
    · rfl
theorem sbF_congr {bs cs : List (BitVec 8)} {o p : Nat} (s : List (BitVec 32)) (h : ∀ i, i < 64 → bs.getD (o + i) 0 = cs.getD (p + i) 0) : sbF s bs o = sbF s cs p := by
  unfold sbF; rw [wI_congr h]
theorem shaI_app (s : List (BitVec 32)) (c d : List (BitVec 8)) : ∀ j, 64 * j ≤ c.length → shaI s (c ++ d) j = shaI s c j
  | 0, _ => rfl
  | j + 1, h => by
    rw [shaI, shaI, shaI_app s c d j (by omega)]
    exact sbF_congr _ fun i hi => getD_append_left (by omega)
theorem shaI_drop (s : List (BitVec 32)) (c : List (BitVec 8)) (q : Nat) : ∀ j, shaI (shaI s c q) (c.drop (64 * q)) j = shaI s c (q + j)
  | 0 => rfl
  | j + 1 => by
    rw [shaI, shaI_drop s c q j, ← Nat.add_assoc, shaI]
    exact sbF_congr _ fun i _ => by rw [getD_drop, Nat.mul_add, Nat.add_assoc]
def stF (m : List (BitVec 8)) : List (BitVec 32) := shaI H0 m (m.length / 64)
def reF (m : List (BitVec 8)) : List (BitVec 8) := m.drop (64 * (m.length / 64))
theorem stF_length (m : List (BitVec 8)) : (stF m).length = 8 := shaI_length _ _ _
theorem reF_length (m : List (BitVec 8)) : (reF m).length = m.length - 64 * (m.length / 64) := List.length_drop
theorem reF_app (m b : List (BitVec 8)) : reF m ++ b = (m ++ b).drop (64 * (m.length / 64)) := by
  rw [List.drop_append_of_le_length (by omega)]; rfl
theorem stF_app (m b : List (BitVec 8)) {q : Nat} (hq : q = (reF m ++ b).length / 64) : shaI (stF m) (reF m ++ b) q = stF (m ++ b) := by
  rw [reF_app, stF, ← shaI_app H0 m b (m.length / 64) (by omega), shaI_drop, stF]
  congr 1
  rw [hq, reF_app, List.length_drop, List.length_append]; omega
theorem reF_step (m b : List (BitVec 8)) {q : Nat} (hq : q = (reF m ++ b).length / 64) : (reF m ++ b).drop (64 * q) = reF (m ++ b) := by
  rw [reF_app, List.drop_drop, reF]
  congr 1
  rw [hq, reF_app, List.length_drop, List.length_append]; omega
/-- the sum of a message -/
def shaF (m : List (BitVec 8)) : List (BitVec 8) := outI (shaI H0 (padF m m.length) ((padF m m.length).length / 64)) 8
theorem shaF_length (m : List (BitVec 8)) : (shaF m).length = 32 := outI_length _ 8 (Nat.le_refl _)
theorem sumF_eq (m : List (BitVec 8)) : sumF (stF m) (reF m) m.length = shaF m := by
  have hz : zN (reF m).length = zN m.length := by rw [reF_length]; unfold zN; omega
  have hp : padF (reF m) m.length = reF m ++ (128 :: List.replicate (zN m.length) 0 ++ nbF (BitVec.ofInt 64 m.length * 8) 8) := by
    rw [padF, padI, hz]; simp only [List.append_assoc]
  have hp2 : padF m m.length = m ++ (128 :: List.replicate (zN m.length) 0 ++ nbF (BitVec.ofInt 64 m.length * 8) 8) := by
    rw [padF, padI]; simp only [List.append_assoc]
  have hm := zN_mod m.length
  rw [sumF, shaF, hp, hp2]
  generalize hb : (128 :: List.replicate (zN m.length) 0 ++ nbF (BitVec.ofInt 64 m.length * 8) 8 : List (BitVec 8)) = b
  rw [stF_app m b rfl]
  rfl
end Go.Proofs.YtljkjdhkofbgmaaDoor.Av
