import Derived.Test.YtljkjdhkofbgmaaDoorOver
import Derived.Test.YtljkjdhkofbgmaaDoorBackLaw
namespace Go.Proofs.YtljkjdhkofbgmaaDoor.Av
open Go
set_option linter.all false
set_option maxRecDepth 3000

/-! what sealed sectors are, with no program in sight -/
def catB (B : Nat → List (BitVec 8)) : Nat → List (BitVec 8)
  | 0 => []
  | n + 1 => catB B n ++ B n
def twN (t : List (BitVec 8)) : Nat → List (BitVec 8)
  | 0 => t
  | n + 1 => twF (twN t n)
theorem twN_length (t : List (BitVec 8)) : ∀ n, (twN t n).length = t.length
  | 0 => rfl
  | n + 1 => by rw [twN, twF_length, twN_length t n]
def chunk (l : List (BitVec 8)) (o : Nat) : List (BitVec 8) := (l.drop o).take 16
/-- a block's tweak, by the block's place -/
def twK (k2 : List (List (BitVec 8))) (s : BitVec 64) (k : Nat) : List (BitVec 8) := twN (encI k2 (firF (s + BitVec.ofNat 64 (k / 32))) 14) (k % 32)
theorem twK_length (k2 : List (List (BitVec 8))) (s : BitVec 64) (k : Nat) : (twK k2 s k).length = 16 := by
  rw [twK, twN_length, encI_length k2 _ (firF_length _)]
def blkK (f : List (BitVec 8) → List (BitVec 8)) (k2 : List (List (BitVec 8))) (bs : List (BitVec 8)) (o : Nat) (s : BitVec 64) (k : Nat) : List (BitVec 8) := blkF f (twK k2 s k) (chunk bs (o + 16 * k))

theorem secI_tw (f : List (BitVec 8) → List (BitVec 8)) (bs : List (BitVec 8)) (o : Nat) (out t : List (BitVec 8)) : ∀ i, (secI f bs o out t i).2 = twN t i
  | 0 => rfl
  | i + 1 => by
    show twF (secI f bs o out t i).2 = twF (twN t i)
    rw [secI_tw f bs o out t i]
theorem secI_cat (f : List (BitVec 8) → List (BitVec 8)) (k2 : List (List (BitVec 8))) (bs : List (BitVec 8)) (o : Nat) (s : BitVec 64) (j : Nat) (out : List (BitVec 8)) (hout : out = catB (blkK f k2 bs o s) (32 * j)) :
    ∀ i, i ≤ 32 → (secI f bs (o + 512 * j) out (encI k2 (firF (s + BitVec.ofNat 64 j)) 14) i).1 = catB (blkK f k2 bs o s) (32 * j + i)
  | 0, _ => hout
  | i + 1, hi => by
    have ih := secI_cat f k2 bs o s j out hout i (by omega)
    have ht := secI_tw f bs (o + 512 * j) out (encI k2 (firF (s + BitVec.ofNat 64 j)) 14) i
    have e1 : (32 * j + i) / 32 = j := by omega
    have e2 : (32 * j + i) % 32 = i := by omega
    have e3 : o + 512 * j + 16 * i = o + 16 * (32 * j + i) := by omega
    rw [secI, ih, ht, e3]
    show _ = catB (blkK f k2 bs o s) (32 * j + i) ++ blkK f k2 bs o s (32 * j + i)
    unfold blkK twK
    rw [e1, e2]
    rfl
theorem ovI_cat (f : List (BitVec 8) → List (BitVec 8)) (k2 : List (List (BitVec 8))) (bs : List (BitVec 8)) (o : Nat) (s : BitVec 64) : ∀ j, ovI f k2 bs o s j = catB (blkK f k2 bs o s) (32 * j)
  | 0 => rfl
  | j + 1 => by
    rw [ovI, secI_cat f k2 bs o s j _ (ovI_cat f k2 bs o s j) 32 (Nat.le_refl _)]
    rfl

theorem catB_length {B : Nat → List (BitVec 8)} : ∀ {n : Nat}, (∀ k, k < n → (B k).length = 16) → (catB B n).length = 16 * n
  | 0, _ => rfl
  | n + 1, h => by
    rw [catB, List.length_append, catB_length (fun k hk => h k (by omega)), h n (by omega)]; omega
theorem catB_congr {B C : Nat → List (BitVec 8)} : ∀ {n : Nat}, (∀ k, k < n → B k = C k) → catB B n = catB C n
  | 0, _ => rfl
  | n + 1, h => by rw [catB, catB, catB_congr (fun k hk => h k (by omega)), h n (by omega)]
theorem catB_chunk {B : Nat → List (BitVec 8)} : ∀ {n : Nat}, (∀ k, k < n → (B k).length = 16) → ∀ k, k < n → chunk (catB B n) (16 * k) = B k
  | 0, _, k, hk => by omega
  | n + 1, h, k, hk => by
    have hl := catB_length (n := n) (fun k hk => h k (by omega))
    unfold chunk
    rw [catB]
    by_cases hkn : k = n
    · subst hkn
      rw [List.drop_append_of_le_length (by omega), List.drop_eq_nil_of_le (by omega), List.nil_append, List.take_of_length_le (by rw [h k (by omega)]; exact Nat.le_refl _)]
    · rw [List.drop_append_of_le_length (by omega), List.take_append_of_le_length (by rw [List.length_drop]; omega)]
      exact catB_chunk (fun k hk => h k (by omega)) k (by omega)
theorem catB_take (l : List (BitVec 8)) (o : Nat) : ∀ n, o + 16 * n ≤ l.length → catB (fun k => chunk l (o + 16 * k)) n = (l.drop o).take (16 * n)
  | 0, _ => by simp [catB]
  | n + 1, h => by
    rw [catB, catB_take l o n (by omega), show 16 * (n + 1) = 16 * n + 16 by omega, List.take_add, List.drop_drop]
    rfl
theorem catB_add (B : Nat → List (BitVec 8)) (m : Nat) : ∀ n, catB B (m + n) = catB B m ++ catB (fun k => B (m + k)) n
  | 0 => by simp [catB]
  | n + 1 => by
    rw [← Nat.add_assoc, catB, catB_add B m n, catB, List.append_assoc]

theorem chunk_length {l : List (BitVec 8)} {o : Nat} (h : o + 16 ≤ l.length) : (chunk l o).length = 16 := by
  unfold chunk; rw [List.length_take, List.length_drop]; omega

theorem blk_back {f g : List (BitVec 8) → List (BitVec 8)} (hf : ∀ p, p.length = 16 → (f p).length = 16) (hgf : ∀ p, p.length = 16 → g (f p) = p) {t p : List (BitVec 8)} (hp : p.length = 16) : blkF g t (blkF f t p) = p := by
  unfold blkF
  rw [xor_xor _ _ (hf _ (by rw [xorF_length, hp])), hgf _ (by rw [xorF_length, hp]), xor_xor _ _ hp]

theorem ov_back {f g : List (BitVec 8) → List (BitVec 8)} (hf : ∀ p, p.length = 16 → (f p).length = 16) (hgf : ∀ p, p.length = 16 → g (f p) = p) (k2 : List (List (BitVec 8))) (bs : List (BitVec 8)) (o m : Nat) (s : BitVec 64) (hm : o + 512 * m ≤ bs.length) :
    ovI g k2 (ovI f k2 bs o s m) 0 s m = (bs.drop o).take (512 * m) := by
  have hlen : ∀ k, k < 32 * m → (blkK f k2 bs o s k).length = 16 := fun k hk => blkF_length hf (chunk_length (by omega))
  rw [ovI_cat g, ovI_cat f]
  have e : catB (blkK g k2 (catB (blkK f k2 bs o s) (32 * m)) 0 s) (32 * m) = catB (fun k => chunk bs (o + 16 * k)) (32 * m) := by
    refine catB_congr fun k hk => ?_
    have h1 := catB_chunk hlen k hk
    show blkF g (twK k2 s k) (chunk (catB (blkK f k2 bs o s) (32 * m)) (0 + 16 * k)) = _
    rw [Nat.zero_add, h1]
    exact blk_back hf hgf (chunk_length (by omega))
  rw [e, catB_take bs o (32 * m) (by omega), show 16 * (32 * m) = 512 * m by omega]
end Go.Proofs.YtljkjdhkofbgmaaDoor.Av
