import Derived.Test.YtodkhgofmgaafaaDoorM5
import Derived.Test.YtodkhgofmgaafaaDoorM4
import Derived.RangeFuncBox
import Derived.RangeFuncLeaves
import Derived.Shelf.Abstract
import Derived.WalkKit
import Derived.OwnWalkIn
import Derived.TacticsInMore
import Derived.LoopNIn
import Derived.LoopIn
namespace Go.Proofs.YtodkhgofmgaafaaDoor.Av
open Go
set_option linter.all false
set_option maxRecDepth 3000

def uF (s : List (BitVec 8)) (c : Nat) : BitVec 8 := shiftF (shiftF (s.getD c 0 ^^^ s.getD (c + 2) 0))
def vF (s : List (BitVec 8)) (c : Nat) : BitVec 8 := shiftF (shiftF (s.getD (c + 1) 0 ^^^ s.getD (c + 3) 0))
def addF (s : List (BitVec 8)) (c : Nat) (u : BitVec 8) : List (BitVec 8) := s.set c (s.getD c 0 ^^^ u)
def preF (s : List (BitVec 8)) (c : Nat) : List (BitVec 8) := addF (addF (addF (addF s c (uF s c)) (c + 1) (vF s c)) (c + 2) (uF s c)) (c + 3) (vF s c)
def preI (s : List (BitVec 8)) : Nat → List (BitVec 8)
  | 0 => s
  | j + 1 => preF (preI s j) (4 * j)
def unmixF (s : List (BitVec 8)) : List (BitVec 8) := mixF (preI s 4)

theorem addF_length (s : List (BitVec 8)) (c : Nat) (u : BitVec 8) : (addF s c u).length = s.length := List.length_set
theorem preF_length (s : List (BitVec 8)) (c : Nat) : (preF s c).length = s.length := by rw [preF, addF_length, addF_length, addF_length, addF_length]
theorem preI_length (s : List (BitVec 8)) : ∀ j, (preI s j).length = s.length
  | 0 => rfl
  | j + 1 => by rw [preI, preF_length, preI_length s j]
theorem unmixF_length (s : List (BitVec 8)) : (unmixF s).length = s.length := by rw [unmixF, mixF_length, preI_length]

theorem unmixed_ac (s : List (BitVec 8)) (hs : s.length = 16) : AC Tryd.prog 148 [.u8s s] 0 [] ⟨.u8s (unmixF s), [], []⟩ := by
  refine ac_of tab mix Tryd.func148 rfl (by kernel_rfl) (by kernel_rfl) (by kernel_rfl) {} ?_
  repeat first | (refine EffG.mk (And.intro ?_ ?_); focus ((repeat' (first | exact trivial | refine And.intro ?_ ?_)) <;> (first | omega | (simp only [hasTy, okP, lenD, D.ren, D.isCell, Option.getD, List.length_set, List.length_take, List.length_drop, List.length_append, List.length_replicate, List.length_map, List.length_cons, List.length_nil, Option.map] <;> omega) | with_reducible assumption | with_reducible rfl | decide); done)) | (refine And.intro ?_ ?_; focus ((repeat' (first | exact trivial | refine And.intro ?_ ?_)) <;> (first | omega | (simp only [hasTy, okP, lenD, D.ren, D.isCell, Option.getD, List.length_set, List.length_take, List.length_drop, List.length_append, List.length_replicate, List.length_map, List.length_cons, List.length_nil, Option.map] <;> omega) | with_reducible assumption | with_reducible rfl | decide); done)) | refine chkG (by kernel_rfl) ?_
  refine loopG Nat (fun j => [(1, .ptr 0 []), (2, .ptr 1 []), (3, .i64 (4 * j : Nat))]) (fun j => [(0, some ⟨t16, .u8s (preI s j), true⟩), (1, some ⟨t16, .u8s (List.replicate 16 0), true⟩)]) 2
    (fun j => j ≤ 4) (fun j => 4 - j) 0 [0, 1] (Nat.zero_le _) ?_ ?_
  · exact viewG rfl ⟨rfl, rfl, rfl, trivial⟩ ⟨⟨_, rfl, rfl, rfl, id⟩, ⟨_, rfl, rfl, rfl, id⟩, trivial⟩ rfl
  intro j hj
  have hl := preI_length s j
  rw [hs] at hl
  repeat first | (refine EffG.mk (And.intro ?_ ?_); focus ((repeat' (first | exact trivial | refine And.intro ?_ ?_)) <;> (first | omega | (simp only [hasTy, okP, lenD, D.ren, D.isCell, Option.getD, List.length_set, List.length_take, List.length_drop, List.length_append, List.length_replicate, List.length_map, List.length_cons, List.length_nil, Option.map] <;> omega) | with_reducible assumption | with_reducible rfl | decide); done)) | (refine And.intro ?_ ?_; focus ((repeat' (first | exact trivial | refine And.intro ?_ ?_)) <;> (first | omega | (simp only [hasTy, okP, lenD, D.ren, D.isCell, Option.getD, List.length_set, List.length_take, List.length_drop, List.length_append, List.length_replicate, List.length_map, List.length_cons, List.length_nil, Option.map] <;> omega) | with_reducible assumption | with_reducible rfl | decide); done)) | refine chkG (by kernel_rfl) ?_
  refine Br.split (fun h => ?_) (fun h => ?_)
  · have hj : j < 4 := by have := of_decide_eq_true h; omega
    repeat first | (refine EffG.mk (And.intro ?_ ?_); focus ((repeat' (first | exact trivial | refine And.intro ?_ ?_)) <;> (first | omega | (simp only [hasTy, okP, lenD, D.ren, D.isCell, Option.getD, List.length_set, List.length_take, List.length_drop, List.length_append, List.length_replicate, List.length_map, List.length_cons, List.length_nil, Option.map] <;> omega) | with_reducible assumption | with_reducible rfl | decide); done)) | (refine And.intro ?_ ?_; focus ((repeat' (first | exact trivial | refine And.intro ?_ ?_)) <;> (first | omega | (simp only [hasTy, okP, lenD, D.ren, D.isCell, Option.getD, List.length_set, List.length_take, List.length_drop, List.length_append, List.length_replicate, List.length_map, List.length_cons, List.length_nil, Option.map] <;> omega) | with_reducible assumption | with_reducible rfl | decide); done)) | refine chkG (by kernel_rfl) ?_
    refine callG (double_ac _) [] rfl rfl trivial rfl rfl ?_
    repeat first | (refine EffG.mk (And.intro ?_ ?_); focus ((repeat' (first | exact trivial | refine And.intro ?_ ?_)) <;> (first | omega | (simp only [hasTy, okP, lenD, D.ren, D.isCell, Option.getD, List.length_set, List.length_take, List.length_drop, List.length_append, List.length_replicate, List.length_map, List.length_cons, List.length_nil, Option.map] <;> omega) | with_reducible assumption | with_reducible rfl | decide); done)) | (refine And.intro ?_ ?_; focus ((repeat' (first | exact trivial | refine And.intro ?_ ?_)) <;> (first | omega | (simp only [hasTy, okP, lenD, D.ren, D.isCell, Option.getD, List.length_set, List.length_take, List.length_drop, List.length_append, List.length_replicate, List.length_map, List.length_cons, List.length_nil, Option.map] <;> omega) | with_reducible assumption | with_reducible rfl | decide); done)) | refine chkG (by kernel_rfl) ?_
    refine callG (double_ac _) [] rfl rfl trivial rfl rfl ?_
    repeat first | (refine EffG.mk (And.intro ?_ ?_); focus ((repeat' (first | exact trivial | refine And.intro ?_ ?_)) <;> (first | omega | (simp only [hasTy, okP, lenD, D.ren, D.isCell, Option.getD, List.length_set, List.length_take, List.length_drop, List.length_append, List.length_replicate, List.length_map, List.length_cons, List.length_nil, Option.map] <;> omega) | with_reducible assumption | with_reducible rfl | decide); done)) | (refine And.intro ?_ ?_; focus ((repeat' (first | exact trivial | refine And.intro ?_ ?_)) <;> (first | omega | (simp only [hasTy, okP, lenD, D.ren, D.isCell, Option.getD, List.length_set, List.length_take, List.length_drop, List.length_append, List.length_replicate, List.length_map, List.length_cons, List.length_nil, Option.map] <;> omega) | with_reducible assumption | with_reducible rfl | decide); done)) | refine chkG (by kernel_rfl) ?_
    refine callG (double_ac _) [] rfl rfl trivial rfl rfl ?_
    repeat first | (refine EffG.mk (And.intro ?_ ?_); focus ((repeat' (first | exact trivial | refine And.intro ?_ ?_)) <;> (first | omega | (simp only [hasTy, okP, lenD, D.ren, D.isCell, Option.getD, List.length_set, List.length_take, List.length_drop, List.length_append, List.length_replicate, List.length_map, List.length_cons, List.length_nil, Option.map] <;> omega) | with_reducible assumption | with_reducible rfl | decide); done)) | (refine And.intro ?_ ?_; focus ((repeat' (first | exact trivial | refine And.intro ?_ ?_)) <;> (first | omega | (simp only [hasTy, okP, lenD, D.ren, D.isCell, Option.getD, List.length_set, List.length_take, List.length_drop, List.length_append, List.length_replicate, List.length_map, List.length_cons, List.length_nil, Option.map] <;> omega) | with_reducible assumption | with_reducible rfl | decide); done)) | refine chkG (by kernel_rfl) ?_
    refine callG (double_ac _) [] rfl rfl trivial rfl rfl ?_
    repeat first | (refine EffG.mk (And.intro ?_ ?_); focus ((repeat' (first | exact trivial | refine And.intro ?_ ?_)) <;> (first | omega | (simp only [hasTy, okP, lenD, D.ren, D.isCell, Option.getD, List.length_set, List.length_take, List.length_drop, List.length_append, List.length_replicate, List.length_map, List.length_cons, List.length_nil, Option.map] <;> omega) | with_reducible assumption | with_reducible rfl | decide); done)) | (refine And.intro ?_ ?_; focus ((repeat' (first | exact trivial | refine And.intro ?_ ?_)) <;> (first | omega | (simp only [hasTy, okP, lenD, D.ren, D.isCell, Option.getD, List.length_set, List.length_take, List.length_drop, List.length_append, List.length_replicate, List.length_map, List.length_cons, List.length_nil, Option.map] <;> omega) | with_reducible assumption | with_reducible rfl | decide); done)) | refine chkG (by kernel_rfl) ?_
    refine nextG (j + 1) [0, 1] ?_ ?_ ?_
    · omega
    · omega
    · exact viewG rfl ⟨rfl, rfl, rfl, trivial⟩ ⟨⟨_, rfl, rfl, rfl, id⟩, ⟨_, rfl, rfl, rfl, id⟩, trivial⟩ rfl
  · have hj : j = 4 := by have := of_decide_eq_false h; omega
    have hm := mixF_length (preI s j)
    rw [hl] at hm
    repeat first | (refine EffG.mk (And.intro ?_ ?_); focus ((repeat' (first | exact trivial | refine And.intro ?_ ?_)) <;> (first | omega | (simp only [hasTy, okP, lenD, D.ren, D.isCell, Option.getD, List.length_set, List.length_take, List.length_drop, List.length_append, List.length_replicate, List.length_map, List.length_cons, List.length_nil, Option.map] <;> omega) | with_reducible assumption | with_reducible rfl | decide); done)) | (refine And.intro ?_ ?_; focus ((repeat' (first | exact trivial | refine And.intro ?_ ?_)) <;> (first | omega | (simp only [hasTy, okP, lenD, D.ren, D.isCell, Option.getD, List.length_set, List.length_take, List.length_drop, List.length_append, List.length_replicate, List.length_map, List.length_cons, List.length_nil, Option.map] <;> omega) | with_reducible assumption | with_reducible rfl | decide); done)) | refine chkG (by kernel_rfl) ?_
    refine callG (mixed_ac _ hl) [] rfl rfl trivial rfl rfl ?_
    repeat first | (refine EffG.mk (And.intro ?_ ?_); focus ((repeat' (first | exact trivial | refine And.intro ?_ ?_)) <;> (first | omega | (simp only [hasTy, okP, lenD, D.ren, D.isCell, Option.getD, List.length_set, List.length_take, List.length_drop, List.length_append, List.length_replicate, List.length_map, List.length_cons, List.length_nil, Option.map] <;> omega) | with_reducible assumption | with_reducible rfl | decide); done)) | (refine And.intro ?_ ?_; focus ((repeat' (first | exact trivial | refine And.intro ?_ ?_)) <;> (first | omega | (simp only [hasTy, okP, lenD, D.ren, D.isCell, Option.getD, List.length_set, List.length_take, List.length_drop, List.length_append, List.length_replicate, List.length_map, List.length_cons, List.length_nil, Option.map] <;> omega) | with_reducible assumption | with_reducible rfl | decide); done)) | refine chkG (by kernel_rfl) ?_
    refine retG [] ?_ rfl trivial rfl
    refine congrArg D.u8s ?_
    rw [hj]; rfl

def usubI (s : List (BitVec 8)) : Nat → List (BitVec 8)
  | 0 => List.replicate 16 0
  | i + 1 => (usubI s i).set ((i + 4 * (i % 4)) % 16) (usboxF (s.getD i 0))
theorem usubI_length (s : List (BitVec 8)) : ∀ i, (usubI s i).length = 16
  | 0 => rfl
  | i + 1 => by rw [usubI, List.length_set, usubI_length s i]
def decT (ks : List (List (BitVec 8))) (k : Nat) (s : List (BitVec 8)) : List (BitVec 8) := if 14 - k < 14 then unmixF (xorF s (ks.getD (14 - k) [])) else xorF s (ks.getD (14 - k) [])
def decI (ks : List (List (BitVec 8))) (b : List (BitVec 8)) : Nat → List (BitVec 8)
  | 0 => b
  | k + 1 => usubI (decT ks k (decI ks b k)) 16
def decF (ks : List (List (BitVec 8))) (b : List (BitVec 8)) : List (BitVec 8) := xorF (decI ks b 14) (ks.getD 0 [])
theorem decT_length (ks : List (List (BitVec 8))) (k : Nat) (s : List (BitVec 8)) : (decT ks k s).length = s.length := by
  unfold decT
  split
  · rw [unmixF_length, xorF_length]
  · rw [xorF_length]
theorem decI_length (ks : List (List (BitVec 8))) (b : List (BitVec 8)) (hb : b.length = 16) : ∀ k, (decI ks b k).length = 16
  | 0 => hb
  | k + 1 => by rw [decI, usubI_length]

theorem decrypt_ac (ks : List (List (BitVec 8))) (b : List (BitVec 8)) (hb : b.length = 16) (h1 : ks.length = 15) (h2 : ∀ k ∈ ks, k.length = 16) :
    AC Tryd.prog 118 [.ptr 0 [], .u8s b] 1 [(0, some ⟨tC, keysD ks, true⟩)] ⟨.u8s (decF ks b), [], []⟩ := by
  have hm : (ks.map D.u8s).length = 15 := by rw [List.length_map, h1]
  have hk : ∀ i, i < 15 → (ks.getD i []).length = 16 := fun i hi => h2 _ (getD_mem (by omega))
  refine ac_of tab mix Tryd.func118 rfl (by kernel_rfl) (by kernel_rfl) (by kernel_rfl) ⟨[10], []⟩ ?_
  repeat first | (refine EffG.mk (And.intro ?_ ?_); focus ((repeat' (first | exact trivial | refine And.intro ?_ ?_)) <;> (first | omega | (simp only [hasTy, okP, lenD, D.ren, D.isCell, Option.getD, List.length_set, List.length_take, List.length_drop, List.length_append, List.length_replicate, List.length_map, List.length_cons, List.length_nil, Option.map] <;> omega) | with_reducible assumption | with_reducible rfl | decide); done)) | (refine And.intro ?_ ?_; focus ((repeat' (first | exact trivial | refine And.intro ?_ ?_)) <;> (first | omega | (simp only [hasTy, okP, lenD, D.ren, D.isCell, Option.getD, List.length_set, List.length_take, List.length_drop, List.length_append, List.length_replicate, List.length_map, List.length_cons, List.length_nil, Option.map] <;> omega) | with_reducible assumption | with_reducible rfl | decide); done)) | refine chkG (by kernel_rfl) ?_
  refine Br.no rfl ?_
  repeat first | (refine EffG.mk (And.intro ?_ ?_); focus ((repeat' (first | exact trivial | refine And.intro ?_ ?_)) <;> (first | omega | (simp only [hasTy, okP, lenD, D.ren, D.isCell, Option.getD, List.length_set, List.length_take, List.length_drop, List.length_append, List.length_replicate, List.length_map, List.length_cons, List.length_nil, Option.map] <;> omega) | with_reducible assumption | with_reducible rfl | decide); done)) | (refine And.intro ?_ ?_; focus ((repeat' (first | exact trivial | refine And.intro ?_ ?_)) <;> (first | omega | (simp only [hasTy, okP, lenD, D.ren, D.isCell, Option.getD, List.length_set, List.length_take, List.length_drop, List.length_append, List.length_replicate, List.length_map, List.length_cons, List.length_nil, Option.map] <;> omega) | with_reducible assumption | with_reducible rfl | decide); done)) | refine chkG (by kernel_rfl) ?_
  refine loopG Nat (fun k => [(0, .ptr 0 []), (4, .ptr 2 []), (5, .ptr 3 []), (6, .i64 (14 - k : Nat))])
    (fun k => [(0, some ⟨tC, keysD ks, true⟩), (2, some ⟨t16, .u8s (List.replicate 16 0), true⟩), (3, some ⟨t16, .u8s (decI ks b k), true⟩)]) 4 (fun k => k ≤ 14) (fun k => 14 - k) 0 [0, 1, 2, 3] (Nat.zero_le _) ?_ ?_
  · exact viewG rfl ⟨rfl, rfl, rfl, rfl, trivial⟩ ⟨⟨_, rfl, rfl, (ren_keysD _ ks).symm, id⟩, ⟨_, rfl, rfl, rfl, id⟩, ⟨_, rfl, rfl, rfl, id⟩, trivial⟩ rfl
  intro k hk14
  have hl := decI_length ks b hb k
  repeat first | (refine EffG.mk (And.intro ?_ ?_); focus ((repeat' (first | exact trivial | refine And.intro ?_ ?_)) <;> (first | omega | (simp only [hasTy, okP, lenD, D.ren, D.isCell, Option.getD, List.length_set, List.length_take, List.length_drop, List.length_append, List.length_replicate, List.length_map, List.length_cons, List.length_nil, Option.map] <;> omega) | with_reducible assumption | with_reducible rfl | decide); done)) | (refine And.intro ?_ ?_; focus ((repeat' (first | exact trivial | refine And.intro ?_ ?_)) <;> (first | omega | (simp only [hasTy, okP, lenD, D.ren, D.isCell, Option.getD, List.length_set, List.length_take, List.length_drop, List.length_append, List.length_replicate, List.length_map, List.length_cons, List.length_nil, Option.map] <;> omega) | with_reducible assumption | with_reducible rfl | decide); done)) | refine chkG (by kernel_rfl) ?_
  refine Br.split (fun h => ?_) (fun h => ?_)
  · have hk14 : k < 14 := by have := of_decide_eq_true h; omega
    have hx := xorF_length (decI ks b k) (ks.getD (14 - k) [])
    rw [hl] at hx
    repeat first | (rw [nthD_u8s (l := ks)]; rotate_left; omega) | rw [Int.toNat_natCast (14 - k)] | (refine EffG.mk (And.intro ?_ ?_); focus ((repeat' (first | exact trivial | refine And.intro ?_ ?_)) <;> (first | omega | (simp only [hasTy, okP, lenD, D.ren, D.isCell, Option.getD, List.length_set, List.length_take, List.length_drop, List.length_append, List.length_replicate, List.length_map, List.length_cons, List.length_nil, Option.map] <;> omega) | with_reducible assumption | with_reducible rfl | decide); done)) | (refine And.intro ?_ ?_; focus ((repeat' (first | exact trivial | refine And.intro ?_ ?_)) <;> (first | omega | (simp only [hasTy, okP, lenD, D.ren, D.isCell, Option.getD, List.length_set, List.length_take, List.length_drop, List.length_append, List.length_replicate, List.length_map, List.length_cons, List.length_nil, Option.map] <;> omega) | with_reducible assumption | with_reducible rfl | decide); done)) | refine chkG (by kernel_rfl) ?_
    refine callG (xor_ac _ (ks.getD (14 - k) []) hl (hk (14 - k) (by omega))) [] rfl rfl trivial rfl rfl ?_
    repeat first | (refine EffG.mk (And.intro ?_ ?_); focus ((repeat' (first | exact trivial | refine And.intro ?_ ?_)) <;> (first | omega | (simp only [hasTy, okP, lenD, D.ren, D.isCell, Option.getD, List.length_set, List.length_take, List.length_drop, List.length_append, List.length_replicate, List.length_map, List.length_cons, List.length_nil, Option.map] <;> omega) | with_reducible assumption | with_reducible rfl | decide); done)) | (refine And.intro ?_ ?_; focus ((repeat' (first | exact trivial | refine And.intro ?_ ?_)) <;> (first | omega | (simp only [hasTy, okP, lenD, D.ren, D.isCell, Option.getD, List.length_set, List.length_take, List.length_drop, List.length_append, List.length_replicate, List.length_map, List.length_cons, List.length_nil, Option.map] <;> omega) | with_reducible assumption | with_reducible rfl | decide); done)) | refine chkG (by kernel_rfl) ?_
    refine joinG Unit (fun _ => [(0, .ptr 0 []), (4, .ptr 2 []), (5, .ptr 3 []), (6, .i64 (14 - k : Nat))])
      (fun _ => [(0, some ⟨tC, keysD ks, true⟩), (2, some ⟨t16, .u8s (List.replicate 16 0), true⟩), (3, some ⟨t16, .u8s (decT ks k (decI ks b k)), true⟩)]) 4 (fun _ => True) ?_ ?_
    · repeat first | (refine EffG.mk (And.intro ?_ ?_); focus ((repeat' (first | exact trivial | refine And.intro ?_ ?_)) <;> (first | omega | (simp only [hasTy, okP, lenD, D.ren, D.isCell, Option.getD, List.length_set, List.length_take, List.length_drop, List.length_append, List.length_replicate, List.length_map, List.length_cons, List.length_nil, Option.map] <;> omega) | with_reducible assumption | with_reducible rfl | decide); done)) | (refine And.intro ?_ ?_; focus ((repeat' (first | exact trivial | refine And.intro ?_ ?_)) <;> (first | omega | (simp only [hasTy, okP, lenD, D.ren, D.isCell, Option.getD, List.length_set, List.length_take, List.length_drop, List.length_append, List.length_replicate, List.length_map, List.length_cons, List.length_nil, Option.map] <;> omega) | with_reducible assumption | with_reducible rfl | decide); done)) | refine chkG (by kernel_rfl) ?_
      refine Br.split (fun h => ?_) (fun h => ?_)
      · have h : 14 - k < 14 := by have := of_decide_eq_true h; omega
        have hu := unmixF_length (xorF (decI ks b k) (ks.getD (14 - k) []))
        rw [hx] at hu
        repeat first | (refine EffG.mk (And.intro ?_ ?_); focus ((repeat' (first | exact trivial | refine And.intro ?_ ?_)) <;> (first | omega | (simp only [hasTy, okP, lenD, D.ren, D.isCell, Option.getD, List.length_set, List.length_take, List.length_drop, List.length_append, List.length_replicate, List.length_map, List.length_cons, List.length_nil, Option.map] <;> omega) | with_reducible assumption | with_reducible rfl | decide); done)) | (refine And.intro ?_ ?_; focus ((repeat' (first | exact trivial | refine And.intro ?_ ?_)) <;> (first | omega | (simp only [hasTy, okP, lenD, D.ren, D.isCell, Option.getD, List.length_set, List.length_take, List.length_drop, List.length_append, List.length_replicate, List.length_map, List.length_cons, List.length_nil, Option.map] <;> omega) | with_reducible assumption | with_reducible rfl | decide); done)) | refine chkG (by kernel_rfl) ?_
        refine callG (unmixed_ac _ hx) [] rfl rfl trivial rfl rfl ?_
        repeat first | (refine EffG.mk (And.intro ?_ ?_); focus ((repeat' (first | exact trivial | refine And.intro ?_ ?_)) <;> (first | omega | (simp only [hasTy, okP, lenD, D.ren, D.isCell, Option.getD, List.length_set, List.length_take, List.length_drop, List.length_append, List.length_replicate, List.length_map, List.length_cons, List.length_nil, Option.map] <;> omega) | with_reducible assumption | with_reducible rfl | decide); done)) | (refine And.intro ?_ ?_; focus ((repeat' (first | exact trivial | refine And.intro ?_ ?_)) <;> (first | omega | (simp only [hasTy, okP, lenD, D.ren, D.isCell, Option.getD, List.length_set, List.length_take, List.length_drop, List.length_append, List.length_replicate, List.length_map, List.length_cons, List.length_nil, Option.map] <;> omega) | with_reducible assumption | with_reducible rfl | decide); done)) | refine chkG (by kernel_rfl) ?_
        refine meetG () [0, 1, 2, 3] trivial ?_
        exact viewG rfl ⟨rfl, rfl, rfl, rfl, trivial⟩ ⟨⟨_, rfl, rfl, (ren_keysD _ ks).symm, id⟩, ⟨_, rfl, rfl, rfl, id⟩, ⟨_, rfl, rfl, congrArg D.u8s (if_pos h).symm, id⟩, trivial⟩ rfl
      · have h : ¬ 14 - k < 14 := by have := of_decide_eq_false h; omega
        refine meetG () [0, 1, 2, 3] trivial ?_
        exact viewG rfl ⟨rfl, rfl, rfl, rfl, trivial⟩ ⟨⟨_, rfl, rfl, (ren_keysD _ ks).symm, id⟩, ⟨_, rfl, rfl, rfl, id⟩, ⟨_, rfl, rfl, congrArg D.u8s (if_neg h).symm, id⟩, trivial⟩ rfl
    intro _ _
    have ht := decT_length ks k (decI ks b k)
    rw [hl] at ht
    have hc : decI ks b (k + 1) = usubI (decT ks k (decI ks b k)) 16 := rfl
    generalize decT ks k (decI ks b k) = t at ht hc ⊢
    repeat first | (refine EffG.mk (And.intro ?_ ?_); focus ((repeat' (first | exact trivial | refine And.intro ?_ ?_)) <;> (first | omega | (simp only [hasTy, okP, lenD, D.ren, D.isCell, Option.getD, List.length_set, List.length_take, List.length_drop, List.length_append, List.length_replicate, List.length_map, List.length_cons, List.length_nil, Option.map] <;> omega) | with_reducible assumption | with_reducible rfl | decide); done)) | (refine And.intro ?_ ?_; focus ((repeat' (first | exact trivial | refine And.intro ?_ ?_)) <;> (first | omega | (simp only [hasTy, okP, lenD, D.ren, D.isCell, Option.getD, List.length_set, List.length_take, List.length_drop, List.length_append, List.length_replicate, List.length_map, List.length_cons, List.length_nil, Option.map] <;> omega) | with_reducible assumption | with_reducible rfl | decide); done)) | refine chkG (by kernel_rfl) ?_
    refine loopG Nat (fun i => [(0, .ptr 0 []), (4, .ptr 2 []), (5, .ptr 3 []), (6, .i64 (14 - k : Nat)), (7, .ptr 4 []), (29, .i64 i)])
      (fun i => [(0, some ⟨tC, keysD ks, true⟩), (2, some ⟨t16, .u8s (List.replicate 16 0), true⟩), (3, some ⟨t16, .u8s t, true⟩), (4, some ⟨t16, .u8s (usubI t i), true⟩)]) 5 (fun i => i ≤ 16) (fun i => 16 - i) 0 [0, 1, 2, 3, 4] (Nat.zero_le _) ?_ ?_
    · exact viewG rfl ⟨rfl, rfl, rfl, rfl, rfl, rfl, trivial⟩ ⟨⟨_, rfl, rfl, (ren_keysD _ ks).symm, id⟩, ⟨_, rfl, rfl, rfl, id⟩, ⟨_, rfl, rfl, rfl, id⟩, ⟨_, rfl, rfl, rfl, id⟩, trivial⟩ rfl
    intro i hi
    have hs := usubI_length t i
    repeat first | (refine EffG.mk (And.intro ?_ ?_); focus ((repeat' (first | exact trivial | refine And.intro ?_ ?_)) <;> (first | omega | (simp only [hasTy, okP, lenD, D.ren, D.isCell, Option.getD, List.length_set, List.length_take, List.length_drop, List.length_append, List.length_replicate, List.length_map, List.length_cons, List.length_nil, Option.map] <;> omega) | with_reducible assumption | with_reducible rfl | decide); done)) | (refine And.intro ?_ ?_; focus ((repeat' (first | exact trivial | refine And.intro ?_ ?_)) <;> (first | omega | (simp only [hasTy, okP, lenD, D.ren, D.isCell, Option.getD, List.length_set, List.length_take, List.length_drop, List.length_append, List.length_replicate, List.length_map, List.length_cons, List.length_nil, Option.map] <;> omega) | with_reducible assumption | with_reducible rfl | decide); done)) | refine chkG (by kernel_rfl) ?_
    refine Br.split (fun h => ?_) (fun h => ?_)
    · have hi : i < 16 := by have := of_decide_eq_true h; omega
      have e1 : Int.tmod (i : Int) 4 = ((i % 4 : Nat) : Int) := (Int.ofNat_tmod i 4).symm
      have e2 : Int.tmod ((i : Int) + 4 * ((i % 4 : Nat) : Int)) 16 = (((i + 4 * (i % 4)) % 16 : Nat) : Int) := Int.ofNat_tmod (i + 4 * (i % 4)) 16
      repeat first | rw [e1] | rw [e2] | (refine EffG.mk (And.intro ?_ ?_); focus ((repeat' (first | exact trivial | refine And.intro ?_ ?_)) <;> (first | omega | (simp only [hasTy, okP, lenD, D.ren, D.isCell, Option.getD, List.length_set, List.length_take, List.length_drop, List.length_append, List.length_replicate, List.length_map, List.length_cons, List.length_nil, Option.map] <;> omega) | with_reducible assumption | with_reducible rfl | decide); done)) | (refine And.intro ?_ ?_; focus ((repeat' (first | exact trivial | refine And.intro ?_ ?_)) <;> (first | omega | (simp only [hasTy, okP, lenD, D.ren, D.isCell, Option.getD, List.length_set, List.length_take, List.length_drop, List.length_append, List.length_replicate, List.length_map, List.length_cons, List.length_nil, Option.map] <;> omega) | with_reducible assumption | with_reducible rfl | decide); done)) | refine chkG (by kernel_rfl) ?_
      refine callG unbox_ac [] rfl rfl trivial rfl rfl ?_
      repeat first | rw [e1] | rw [e2] | refine EffG.mk (And.intro (byte_ix _ unboxL unboxL_length) ?_) | (refine EffG.mk (And.intro ?_ ?_); focus ((repeat' (first | exact trivial | refine And.intro ?_ ?_)) <;> (first | omega | (simp only [hasTy, okP, lenD, D.ren, D.isCell, Option.getD, List.length_set, List.length_take, List.length_drop, List.length_append, List.length_replicate, List.length_map, List.length_cons, List.length_nil, Option.map] <;> omega) | with_reducible assumption | with_reducible rfl | decide); done)) | (refine And.intro ?_ ?_; focus ((repeat' (first | exact trivial | refine And.intro ?_ ?_)) <;> (first | omega | (simp only [hasTy, okP, lenD, D.ren, D.isCell, Option.getD, List.length_set, List.length_take, List.length_drop, List.length_append, List.length_replicate, List.length_map, List.length_cons, List.length_nil, Option.map] <;> omega) | with_reducible assumption | with_reducible rfl | decide); done)) | refine chkG (by kernel_rfl) ?_
      refine nextG (i + 1) [0, 1, 2, 3, 4] ?_ ?_ ?_
      · omega
      · omega
      · exact viewG rfl ⟨rfl, rfl, rfl, rfl, rfl, rfl, trivial⟩ ⟨⟨_, rfl, rfl, (ren_keysD _ ks).symm, id⟩, ⟨_, rfl, rfl, rfl, id⟩, ⟨_, rfl, rfl, rfl, id⟩, ⟨_, rfl, rfl, rfl, id⟩, trivial⟩ rfl
    · have hi : i = 16 := by have := of_decide_eq_false h; omega
      subst hi
      repeat first | (refine EffG.mk (And.intro ?_ ?_); focus ((repeat' (first | exact trivial | refine And.intro ?_ ?_)) <;> (first | omega | (simp only [hasTy, okP, lenD, D.ren, D.isCell, Option.getD, List.length_set, List.length_take, List.length_drop, List.length_append, List.length_replicate, List.length_map, List.length_cons, List.length_nil, Option.map] <;> omega) | with_reducible assumption | with_reducible rfl | decide); done)) | (refine And.intro ?_ ?_; focus ((repeat' (first | exact trivial | refine And.intro ?_ ?_)) <;> (first | omega | (simp only [hasTy, okP, lenD, D.ren, D.isCell, Option.getD, List.length_set, List.length_take, List.length_drop, List.length_append, List.length_replicate, List.length_map, List.length_cons, List.length_nil, Option.map] <;> omega) | with_reducible assumption | with_reducible rfl | decide); done)) | refine chkG (by kernel_rfl) ?_
      refine nextG (k + 1) [0, 1, 2, 3] ?_ ?_ ?_
      · omega
      · omega
      · exact viewG rfl ⟨rfl, rfl, rfl, congrArg (fun x => some (D.i64 x)) (by omega), trivial⟩ ⟨⟨_, rfl, rfl, (ren_keysD _ ks).symm, id⟩, ⟨_, rfl, rfl, rfl, id⟩, ⟨_, rfl, rfl, congrArg D.u8s hc.symm, id⟩, trivial⟩ rfl
  · have hk14 : k = 14 := by have := of_decide_eq_false h; omega
    subst hk14
    have hx := xorF_length (decI ks b 14) (ks.getD 0 [])
    rw [hl] at hx
    repeat first | (rw [nthD_u8s (l := ks)]; rotate_left; omega) | (refine EffG.mk (And.intro ?_ ?_); focus ((repeat' (first | exact trivial | refine And.intro ?_ ?_)) <;> (first | omega | (simp only [hasTy, okP, lenD, D.ren, D.isCell, Option.getD, List.length_set, List.length_take, List.length_drop, List.length_append, List.length_replicate, List.length_map, List.length_cons, List.length_nil, Option.map] <;> omega) | with_reducible assumption | with_reducible rfl | decide); done)) | (refine And.intro ?_ ?_; focus ((repeat' (first | exact trivial | refine And.intro ?_ ?_)) <;> (first | omega | (simp only [hasTy, okP, lenD, D.ren, D.isCell, Option.getD, List.length_set, List.length_take, List.length_drop, List.length_append, List.length_replicate, List.length_map, List.length_cons, List.length_nil, Option.map] <;> omega) | with_reducible assumption | with_reducible rfl | decide); done)) | refine chkG (by kernel_rfl) ?_
    refine callG (xor_ac _ (ks.getD 0 []) hl (hk 0 (by omega))) [] rfl rfl trivial rfl rfl ?_
    repeat first | (refine EffG.mk (And.intro ?_ ?_); focus ((repeat' (first | exact trivial | refine And.intro ?_ ?_)) <;> (first | omega | (simp only [hasTy, okP, lenD, D.ren, D.isCell, Option.getD, List.length_set, List.length_take, List.length_drop, List.length_append, List.length_replicate, List.length_map, List.length_cons, List.length_nil, Option.map] <;> omega) | with_reducible assumption | with_reducible rfl | decide); done)) | (refine And.intro ?_ ?_; focus ((repeat' (first | exact trivial | refine And.intro ?_ ?_)) <;> (first | omega | (simp only [hasTy, okP, lenD, D.ren, D.isCell, Option.getD, List.length_set, List.length_take, List.length_drop, List.length_append, List.length_replicate, List.length_map, List.length_cons, List.length_nil, Option.map] <;> omega) | with_reducible assumption | with_reducible rfl | decide); done)) | refine chkG (by kernel_rfl) ?_
    refine retG [0] rfl rfl ⟨⟨_, rfl, rfl, (ren_keysD _ ks).symm, id⟩, trivial⟩ rfl
end Go.Proofs.YtodkhgofmgaafaaDoor.Av

namespace Go.Proofs.YtodkhgofmgaafaaDoor.Av
open Go
set_option linter.all false
set_option maxRecDepth 3000

/-! what is encrypted is decrypted to what it was, with no program in sight -/

theorem box_back (b : BitVec 8) : usboxF (sboxF b) = b ∧ sboxF (usboxF b) = b :=
  byte_nat (p := fun b => usboxF (sboxF b) = b ∧ sboxF (usboxF b) = b) (by decide +kernel) b

theorem high_bit (a : BitVec 8) : a &&& 128 = 0 ∨ a &&& 128 = 128 := byte_nat (p := fun a => a &&& 128 = 0 ∨ a &&& 128 = 128) (by decide +kernel) a

theorem xor_lc (a b c : BitVec 8) : a ^^^ (b ^^^ c) = b ^^^ (a ^^^ c) := by rw [← BitVec.xor_assoc, BitVec.xor_comm a b, BitVec.xor_assoc]
theorem xor_cancel (a b : BitVec 8) : a ^^^ (a ^^^ b) = b := by rw [← BitVec.xor_assoc, BitVec.xor_self, BitVec.zero_xor]
theorem and_xor (a b c : BitVec 8) : (a ^^^ b) &&& c = (a &&& c) ^^^ (b &&& c) := by
  apply BitVec.eq_of_getLsbD_eq
  intro i hi
  simp only [BitVec.getLsbD_and, BitVec.getLsbD_xor]
  cases a.getLsbD i <;> cases b.getLsbD i <;> cases c.getLsbD i <;> rfl
theorem shiftF_xor (a b : BitVec 8) : shiftF (a ^^^ b) = shiftF a ^^^ shiftF b := by
  unfold shiftF
  have e : (a ^^^ b) &&& 128 = (a &&& 128) ^^^ (b &&& 128) := and_xor a b 128
  rw [e, BitVec.shiftLeft_xor_distrib]
  rcases high_bit a with ha | ha <;> rcases high_bit b with hb | hb <;> rw [ha, hb]
  · simp
  · simp [BitVec.xor_assoc]
  · simp only [BitVec.xor_assoc, BitVec.xor_comm, xor_lc, if_true]; simp [BitVec.xor_assoc, BitVec.xor_comm, xor_lc]
  · simp [BitVec.xor_assoc, BitVec.xor_comm, xor_lc, xor_cancel]

theorem list16 {α : Type} (l : List α) (h : l.length = 16) : ∃ a0 a1 a2 a3 a4 a5 a6 a7 a8 a9 a10 a11 a12 a13 a14 a15, l = [a0, a1, a2, a3, a4, a5, a6, a7, a8, a9, a10, a11, a12, a13, a14, a15] := by
  match l, h with
  | [a0, a1, a2, a3, a4, a5, a6, a7, a8, a9, a10, a11, a12, a13, a14, a15], _ => exact ⟨a0, a1, a2, a3, a4, a5, a6, a7, a8, a9, a10, a11, a12, a13, a14, a15, rfl⟩

def mcF (f : BitVec 8 → BitVec 8) (a b c d : BitVec 8) : List (BitVec 8) :=
  [a ^^^ (a ^^^ b ^^^ c ^^^ d ^^^ f (a ^^^ b)), b ^^^ (a ^^^ b ^^^ c ^^^ d ^^^ f (b ^^^ c)), c ^^^ (a ^^^ b ^^^ c ^^^ d ^^^ f (c ^^^ d)), d ^^^ (a ^^^ b ^^^ c ^^^ d ^^^ f (d ^^^ a))]
def pcF (f : BitVec 8 → BitVec 8) (a b c d : BitVec 8) : List (BitVec 8) :=
  [a ^^^ f (f (a ^^^ c)), b ^^^ f (f (b ^^^ d)), c ^^^ f (f (a ^^^ c)), d ^^^ f (f (b ^^^ d))]

theorem mixF_list (a0 a1 a2 a3 a4 a5 a6 a7 a8 a9 a10 a11 a12 a13 a14 a15 : BitVec 8) : mixF [a0, a1, a2, a3, a4, a5, a6, a7, a8, a9, a10, a11, a12, a13, a14, a15] =
    mcF shiftF a0 a1 a2 a3 ++ mcF shiftF a4 a5 a6 a7 ++ mcF shiftF a8 a9 a10 a11 ++ mcF shiftF a12 a13 a14 a15 := by
  kernel_rfl
theorem preI_list (a0 a1 a2 a3 a4 a5 a6 a7 a8 a9 a10 a11 a12 a13 a14 a15 : BitVec 8) : preI [a0, a1, a2, a3, a4, a5, a6, a7, a8, a9, a10, a11, a12, a13, a14, a15] 4 =
    pcF shiftF a0 a1 a2 a3 ++ pcF shiftF a4 a5 a6 a7 ++ pcF shiftF a8 a9 a10 a11 ++ pcF shiftF a12 a13 a14 a15 := by
  kernel_rfl
def ap4 (g : BitVec 8 → BitVec 8 → BitVec 8 → BitVec 8 → List (BitVec 8)) : List (BitVec 8) → List (BitVec 8)
  | [a, b, c, d] => g a b c d
  | _ => []

theorem list4 {a b c d a' b' c' d' : BitVec 8} (h0 : a = a') (h1 : b = b') (h2 : c = c') (h3 : d = d') : [a, b, c, d] = [a', b', c', d'] := by rw [h0, h1, h2, h3]
/-- one line of mixed twice -/
theorem mc_line (f : BitVec 8 → BitVec 8) (hf : ∀ x y, f (x ^^^ y) = f x ^^^ f y) (a b c d : BitVec 8) (m0 m1 m2 m3 : BitVec 8) (h0 : m0 = b ^^^ (c ^^^ (d ^^^ (f a ^^^ f b)))) (h1 : m1 = a ^^^ (c ^^^ (d ^^^ (f b ^^^ f c))))
    (h2 : m2 = a ^^^ (b ^^^ (d ^^^ (f c ^^^ f d)))) (h3 : m3 = a ^^^ (b ^^^ (c ^^^ (f d ^^^ f a)))) : m0 ^^^ (m0 ^^^ m1 ^^^ m2 ^^^ m3 ^^^ f (m0 ^^^ m1)) = a ^^^ f (f (a ^^^ c)) := by
  have e1 : m0 ^^^ m1 = a ^^^ (b ^^^ (f a ^^^ f c)) := by
    rw [h0, h1]
    simp only [BitVec.xor_assoc, BitVec.xor_comm, xor_lc, xor_cancel]
  have e2 : m0 ^^^ (m0 ^^^ m1 ^^^ m2 ^^^ m3 ^^^ f (m0 ^^^ m1)) = m1 ^^^ (m2 ^^^ (m3 ^^^ f (m0 ^^^ m1))) := by
    simp only [BitVec.xor_assoc, xor_cancel]
  rw [e2, e1, hf a, hf b, hf (f a), hf a c, hf (f a), h1, h2, h3]
  simp only [BitVec.xor_assoc, BitVec.xor_comm, xor_lc, xor_cancel, BitVec.xor_self, BitVec.xor_zero]
theorem mc_forms (f : BitVec 8 → BitVec 8) (hf : ∀ x y, f (x ^^^ y) = f x ^^^ f y) (a b c d : BitVec 8) : a ^^^ (a ^^^ b ^^^ c ^^^ d ^^^ f (a ^^^ b)) = b ^^^ (c ^^^ (d ^^^ (f a ^^^ f b))) := by
  rw [hf]; simp only [BitVec.xor_assoc, xor_cancel]
theorem mc_mc (f : BitVec 8 → BitVec 8) (hf : ∀ x y, f (x ^^^ y) = f x ^^^ f y) (a b c d : BitVec 8) : ap4 (mcF f) (mcF f a b c d) = pcF f a b c d := by
  have l0 : a ^^^ (a ^^^ b ^^^ c ^^^ d ^^^ f (a ^^^ b)) = b ^^^ (c ^^^ (d ^^^ (f a ^^^ f b))) := by
    rw [hf]; simp only [BitVec.xor_assoc, BitVec.xor_comm, xor_lc, xor_cancel]
  have l1 : b ^^^ (a ^^^ b ^^^ c ^^^ d ^^^ f (b ^^^ c)) = a ^^^ (c ^^^ (d ^^^ (f b ^^^ f c))) := by
    rw [hf]; simp only [BitVec.xor_assoc, BitVec.xor_comm, xor_lc, xor_cancel]
  have l2 : c ^^^ (a ^^^ b ^^^ c ^^^ d ^^^ f (c ^^^ d)) = a ^^^ (b ^^^ (d ^^^ (f c ^^^ f d))) := by
    rw [hf]; simp only [BitVec.xor_assoc, BitVec.xor_comm, xor_lc, xor_cancel]
  have l3 : d ^^^ (a ^^^ b ^^^ c ^^^ d ^^^ f (d ^^^ a)) = a ^^^ (b ^^^ (c ^^^ (f d ^^^ f a))) := by
    rw [hf]; simp only [BitVec.xor_assoc, BitVec.xor_comm, xor_lc, xor_cancel]
  show mcF f _ _ _ _ = _
  revert l0 l1 l2 l3
  generalize a ^^^ (a ^^^ b ^^^ c ^^^ d ^^^ f (a ^^^ b)) = m0
  generalize b ^^^ (a ^^^ b ^^^ c ^^^ d ^^^ f (b ^^^ c)) = m1
  generalize c ^^^ (a ^^^ b ^^^ c ^^^ d ^^^ f (c ^^^ d)) = m2
  generalize d ^^^ (a ^^^ b ^^^ c ^^^ d ^^^ f (d ^^^ a)) = m3
  intro l0 l1 l2 l3
  have ac : ∀ x y z w : BitVec 8, x ^^^ (y ^^^ (z ^^^ w)) = y ^^^ (z ^^^ (x ^^^ w)) := fun x y z w => by simp only [BitVec.xor_comm, xor_lc]
  have r1 : m0 ^^^ m1 ^^^ m2 ^^^ m3 = m1 ^^^ m2 ^^^ m3 ^^^ m0 := by simp only [BitVec.xor_assoc, BitVec.xor_comm, xor_lc]
  have r2 : m0 ^^^ m1 ^^^ m2 ^^^ m3 = m2 ^^^ m3 ^^^ m0 ^^^ m1 := by simp only [BitVec.xor_assoc, BitVec.xor_comm, xor_lc]
  have r3 : m0 ^^^ m1 ^^^ m2 ^^^ m3 = m3 ^^^ m0 ^^^ m1 ^^^ m2 := by simp only [BitVec.xor_assoc, BitVec.xor_comm, xor_lc]
  refine list4 ?_ ?_ ?_ ?_
  · exact mc_line f hf a b c d m0 m1 m2 m3 l0 l1 l2 l3
  · rw [r1]
    exact mc_line f hf b c d a m1 m2 m3 m0 (by rw [l1]; simp only [BitVec.xor_comm, xor_lc]) (by rw [l2]; simp only [BitVec.xor_comm, xor_lc]) (by rw [l3]; simp only [BitVec.xor_comm, xor_lc]) (by rw [l0])
  · rw [r2, BitVec.xor_comm a c]
    exact mc_line f hf c d a b m2 m3 m0 m1 (by rw [l2]; simp only [BitVec.xor_comm, xor_lc]) (by rw [l3]; simp only [BitVec.xor_comm, xor_lc]) (by rw [l0]; simp only [BitVec.xor_comm, xor_lc]) (by rw [l1]; simp only [BitVec.xor_comm, xor_lc])
  · rw [r3, BitVec.xor_comm b d]
    exact mc_line f hf d a b c m3 m0 m1 m2 (by rw [l3]) (by rw [l0]; simp only [BitVec.xor_comm, xor_lc]) (by rw [l1]; simp only [BitVec.xor_comm, xor_lc]) (by rw [l2]; simp only [BitVec.xor_comm, xor_lc])

theorem pc_pc (f : BitVec 8 → BitVec 8) (hf : ∀ x y, f (x ^^^ y) = f x ^^^ f y) (a b c d : BitVec 8) : ap4 (pcF f) (pcF f a b c d) = [a, b, c, d] := by
  have e : ∀ x y z : BitVec 8, (x ^^^ z) ^^^ (y ^^^ z) = x ^^^ y := fun x y z => by simp only [BitVec.xor_assoc, BitVec.xor_comm, xor_lc, BitVec.xor_self, BitVec.xor_zero]
  have r : ∀ x y : BitVec 8, (x ^^^ y) ^^^ y = x := fun x y => by simp only [BitVec.xor_assoc, BitVec.xor_self, BitVec.xor_zero]
  show pcF f _ _ _ _ = _
  unfold pcF
  rw [e, e, r, r, r, r]

theorem ap4_four {g h : BitVec 8 → BitVec 8 → BitVec 8 → BitVec 8 → List (BitVec 8)} {l : List (BitVec 8)} (hl : l.length = 4) (e : ∀ a b c d, g a b c d = h a b c d) : ap4 g l = ap4 h l := by
  match l, hl with
  | [a, b, c, d], _ => exact e a b c d

theorem col_back (f : BitVec 8 → BitVec 8) (hf : ∀ x y, f (x ^^^ y) = f x ^^^ f y) (a b c d : BitVec 8) : ap4 (mcF f) (ap4 (pcF f) (mcF f a b c d)) = [a, b, c, d] := by
  have h1 : ap4 (pcF f) (mcF f a b c d) = ap4 (fun a b c d => ap4 (mcF f) (mcF f a b c d)) (mcF f a b c d) := ap4_four rfl (fun a b c d => (mc_mc f hf a b c d).symm)
  have h2 : ap4 (fun a b c d => ap4 (mcF f) (mcF f a b c d)) (mcF f a b c d) = ap4 (mcF f) (pcF f a b c d) := congrArg (ap4 (mcF f)) (mc_mc f hf a b c d)
  rw [h1, h2]
  have h3 : ap4 (mcF f) (ap4 (mcF f) (pcF f a b c d)) = ap4 (pcF f) (pcF f a b c d) := mc_mc f hf _ _ _ _
  rw [h3, pc_pc f hf]
theorem col_forth (f : BitVec 8 → BitVec 8) (hf : ∀ x y, f (x ^^^ y) = f x ^^^ f y) (a b c d : BitVec 8) : ap4 (mcF f) (ap4 (mcF f) (pcF f a b c d)) = [a, b, c, d] := by
  have h3 : ap4 (mcF f) (ap4 (mcF f) (pcF f a b c d)) = ap4 (pcF f) (pcF f a b c d) := mc_mc f hf _ _ _ _
  rw [h3, pc_pc f hf]

theorem four {l0 l1 l2 l3 r0 r1 r2 r3 : List (BitVec 8)} (h0 : l0 = r0) (h1 : l1 = r1) (h2 : l2 = r2) (h3 : l3 = r3) : l0 ++ l1 ++ l2 ++ l3 = r0 ++ r1 ++ r2 ++ r3 := by rw [h0, h1, h2, h3]

theorem unmix_mix (s : List (BitVec 8)) (hs : s.length = 16) : unmixF (mixF s) = s := by
  obtain ⟨a0, a1, a2, a3, a4, a5, a6, a7, a8, a9, a10, a11, a12, a13, a14, a15, rfl⟩ := list16 s hs
  rw [mixF_list]
  simp only [mcF, List.cons_append, List.nil_append]
  unfold unmixF
  rw [preI_list]
  simp only [pcF, List.cons_append, List.nil_append]
  rw [mixF_list]
  exact four (col_back shiftF shiftF_xor a0 a1 a2 a3) (col_back shiftF shiftF_xor a4 a5 a6 a7) (col_back shiftF shiftF_xor a8 a9 a10 a11) (col_back shiftF shiftF_xor a12 a13 a14 a15)

theorem mix_unmix (s : List (BitVec 8)) (hs : s.length = 16) : mixF (unmixF s) = s := by
  obtain ⟨a0, a1, a2, a3, a4, a5, a6, a7, a8, a9, a10, a11, a12, a13, a14, a15, rfl⟩ := list16 s hs
  unfold unmixF
  rw [preI_list]
  simp only [pcF, List.cons_append, List.nil_append]
  rw [mixF_list]
  simp only [mcF, List.cons_append, List.nil_append]
  rw [mixF_list]
  exact four (col_forth shiftF shiftF_xor a0 a1 a2 a3) (col_forth shiftF shiftF_xor a4 a5 a6 a7) (col_forth shiftF shiftF_xor a8 a9 a10 a11) (col_forth shiftF shiftF_xor a12 a13 a14 a15)

theorem ext16 {l r : List (BitVec 8)} (h1 : l.length = 16) (h2 : r.length = 16) (hi : ∀ i, i < 16 → l.getD i 0 = r.getD i 0) : l = r := by
  refine List.ext_getElem (h1.trans h2.symm) fun i q1 q2 => ?_
  have := hi i (by omega)
  rwa [List.getD_eq_getElem?_getD, List.getD_eq_getElem?_getD, List.getElem?_eq_getElem q1, List.getElem?_eq_getElem q2] at this

theorem xorI_at (s k : List (BitVec 8)) (hs : s.length = 16) : ∀ n, n ≤ 16 → ∀ i, (xorI s k n).getD i 0 = if i < n then s.getD i 0 ^^^ k.getD i 0 else s.getD i 0
  | 0, _, i => by simp [xorI]
  | n + 1, hn, i => by
    rw [xorI, getD_set (by rw [xorI_length, hs]; omega)]
    by_cases h : i = n
    · subst h
      rw [if_pos rfl, xorI_at s k hs i (by omega) i, if_neg (Nat.lt_irrefl _), if_pos (Nat.lt_succ_self _)]
    · rw [if_neg h, xorI_at s k hs n (by omega) i]
      by_cases h2 : i < n
      · rw [if_pos h2, if_pos (by omega)]
      · rw [if_neg h2, if_neg (by omega)]
theorem xorF_at (s k : List (BitVec 8)) (hs : s.length = 16) (i : Nat) (hi : i < 16) : (xorF s k).getD i 0 = s.getD i 0 ^^^ k.getD i 0 := by
  rw [xorF, xorI_at s k hs 16 (Nat.le_refl _) i, if_pos hi]
theorem xor_xor (s k : List (BitVec 8)) (hs : s.length = 16) : xorF (xorF s k) k = s := by
  have h1 : (xorF s k).length = 16 := by rw [xorF_length, hs]
  refine ext16 (by rw [xorF_length, h1]) hs fun i hi => ?_
  rw [xorF_at _ k h1 i hi, xorF_at s k hs i hi, BitVec.xor_assoc, BitVec.xor_self, BitVec.xor_zero]

def sg (i : Nat) : Nat := (i + 4 * (i % 4)) % 16
theorem sg_inj : ∀ i, i < 16 → ∀ j, j < 16 → sg i = sg j → i = j := by decide
theorem sg_onto : ∀ i, i < 16 → ∃ j, j < 16 ∧ sg j = i := by decide
theorem sg_lt (i : Nat) : sg i < 16 := Nat.mod_lt _ (by decide)

theorem subI_at (s : List (BitVec 8)) : ∀ n, n ≤ 16 → ∀ i, i < n → (subI s n).getD i 0 = sboxF (s.getD (sg i) 0)
  | 0, _, i, hi => by omega
  | n + 1, hn, i, hi => by
    rw [subI, getD_set (by rw [subI_length]; omega)]
    by_cases h : i = n
    · subst h; rw [if_pos rfl]; rfl
    · rw [if_neg h]
      exact subI_at s n (by omega) i (by omega)
theorem usubI_at (s : List (BitVec 8)) : ∀ n, n ≤ 16 → ∀ i, i < n → (usubI s n).getD (sg i) 0 = usboxF (s.getD i 0)
  | 0, _, i, hi => by omega
  | n + 1, hn, i, hi => by
    rw [usubI, show (n + 4 * (n % 4)) % 16 = sg n from rfl, getD_set (by rw [usubI_length]; exact sg_lt n)]
    by_cases h : i = n
    · subst h; rw [if_pos rfl]
    · rw [if_neg (fun e => h (sg_inj i (by omega) n (by omega) e))]
      exact usubI_at s n (by omega) i (by omega)
theorem usub_sub (s : List (BitVec 8)) (hs : s.length = 16) : usubI (subI s 16) 16 = s := by
  refine ext16 (usubI_length _ _) hs fun i hi => ?_
  obtain ⟨j, hj, rfl⟩ := sg_onto i hi
  rw [usubI_at _ 16 (Nat.le_refl _) j hj, subI_at _ 16 (Nat.le_refl _) j hj, (box_back _).1]
theorem sub_usub (s : List (BitVec 8)) (hs : s.length = 16) : subI (usubI s 16) 16 = s := by
  refine ext16 (subI_length _ _) hs fun i hi => ?_
  rw [subI_at _ 16 (Nat.le_refl _) i hi, usubI_at _ 16 (Nat.le_refl _) i hi, (box_back _).2]

theorem dec_enc (ks : List (List (BitVec 8))) (a : List (BitVec 8)) (ha : a.length = 16) : decF ks (encI ks a 14) = a := by
  have key : ∀ k, k ≤ 14 → decI ks (encI ks a 14) k = encI ks a (14 - k) := by
    intro k
    induction k with
    | zero => intro _; rfl
    | succ k ih =>
      intro hk
      have hl := encI_length ks a ha (14 - (k + 1))
      rw [decI, ih (by omega)]
      have e : 14 - k = 14 - (k + 1) + 1 := by omega
      have e2 : encI ks a (14 - k) = xorF (if 14 - k < 14 then mixF (subI (encI ks a (14 - (k + 1))) 16) else subI (encI ks a (14 - (k + 1))) 16) (ks.getD (14 - k) []) := by
        rw [e]; rfl
      unfold decT
      rw [e2]
      by_cases h : 14 - k < 14
      · simp only [if_pos h]
        rw [xor_xor _ _ (by rw [mixF_length, subI_length]), unmix_mix _ (subI_length _ _), usub_sub _ hl]
      · simp only [if_neg h]
        rw [xor_xor _ _ (subI_length _ _), usub_sub _ hl]
  rw [decF, key 14 (Nat.le_refl _)]
  exact xor_xor a _ ha

theorem enc_dec (ks : List (List (BitVec 8))) (b : List (BitVec 8)) (hb : b.length = 16) : encI ks (decF ks b) 14 = b := by
  have key : ∀ n, n ≤ 14 → encI ks (decF ks b) n = decI ks b (14 - n) := by
    intro n
    induction n with
    | zero => intro _; exact xor_xor _ _ (decI_length ks b hb 14)
    | succ n ih =>
      intro hn
      have hl := decI_length ks b hb (14 - (n + 1))
      have hx : (xorF (decI ks b (14 - (n + 1))) (ks.getD (n + 1) [])).length = 16 := by rw [xorF_length, hl]
      rw [encI, ih (by omega)]
      have e : 14 - n = 14 - (n + 1) + 1 := by omega
      have e2 : decI ks b (14 - n) = usubI (decT ks (14 - (n + 1)) (decI ks b (14 - (n + 1)))) 16 := by rw [e]; rfl
      have e3 : 14 - (14 - (n + 1)) = n + 1 := by omega
      rw [e2]
      unfold decT
      rw [e3]
      by_cases h : n + 1 < 14
      · simp only [if_pos h]
        rw [sub_usub _ (by rw [unmixF_length, hx]), mix_unmix _ hx, xor_xor _ _ hl]
      · simp only [if_neg h]
        rw [sub_usub _ hx, xor_xor _ _ hl]
  exact key 14 (Nat.le_refl _)
end Go.Proofs.YtodkhgofmgaafaaDoor.Av

namespace Go.Proofs.YtodkhgofmgaafaaDoor.Av
open Go
set_option linter.all false
set_option maxRecDepth 3000

/-! what a mask does -/
theorem xrI_at (l : List (BitVec 8)) (o : Nat) (e : List (BitVec 8)) : ∀ n, o + n ≤ l.length → ∀ j, (xrI l o e n).getD j 0 = if o ≤ j ∧ j < o + n then l.getD j 0 ^^^ e.getD (j - o) 0 else l.getD j 0
  | 0, _, j => by rw [if_neg (by omega)]; rfl
  | n + 1, h, j => by
    rw [xrI, getD_set (by rw [xrI_length]; omega), xrI_at l o e n (by omega), xrI_at l o e n (by omega)]
    rw [if_neg (show ¬ (o ≤ o + n ∧ o + n < o + n) by omega)]
    by_cases hj : j = o + n
    · subst hj; rw [if_pos rfl, if_pos (by omega), show o + n - o = n by omega]
    · rw [if_neg hj]
      by_cases h2 : o ≤ j ∧ j < o + n
      · rw [if_pos h2, if_pos (by omega)]
      · rw [if_neg h2, if_neg (by omega)]
def mkB (b : List (BitVec 8)) (j : Nat) : BitVec 8 := if j < 16 then (encI (schedF (labF b wrapS)) (blkN 0) 14).getD j 0 else (encI (schedF (labF b wrapS)) (blkN 1) 14).getD (j - 16) 0
theorem maskF_at (b k : List (BitVec 8)) (hk : k.length = 32) (j : Nat) (hj : j < 32) : (maskF b k).getD j 0 = k.getD j 0 ^^^ mkB b j := by
  rw [maskF, xrI_at _ _ _ 16 (by rw [xrI_length]; omega), xrI_at _ _ _ 16 (by omega)]
  unfold mkB
  by_cases h : j < 16
  · rw [if_neg (by omega), if_pos (by omega), if_pos h, Nat.sub_zero]
  · rw [if_pos (by omega), if_neg (by omega), if_neg h]
theorem xor_xor_r (a b : BitVec 8) : a ^^^ b ^^^ b = a := by rw [BitVec.xor_assoc, BitVec.xor_self, BitVec.xor_zero]
theorem mask_mask (b k : List (BitVec 8)) (hk : k.length = 32) : maskF b (maskF b k) = k := by
  have h1 := maskF_length b k
  refine eq_getD (by rw [maskF_length, h1]) fun i hi => ?_
  rw [maskF_length, h1, hk] at hi
  rw [maskF_at _ _ (h1.trans hk) i hi, maskF_at _ _ hk i hi, xor_xor_r]
theorem mask_inj {b k l : List (BitVec 8)} (hk : k.length = 32) (hl : l.length = 32) : maskF b k = maskF b l ↔ k = l :=
  ⟨fun h => by rw [← mask_mask b k hk, h, mask_mask b l hl], fun h => by rw [h]⟩
/-- no mask is nothing: AES leads back -/
theorem mask_ne (b k : List (BitVec 8)) (hk : k.length = 32) : maskF b k ≠ k := by
  intro h
  have key : ∀ j, j < 32 → mkB b j = 0 := fun j hj => by
    have h2 := maskF_at b k hk j hj
    rw [h] at h2
    rw [← xor_cancel (k.getD j 0) (mkB b j), ← h2, BitVec.xor_self]; rfl
  have l0 := encI_length (schedF (labF b wrapS)) (blkN 0) rfl 14
  have l1 := encI_length (schedF (labF b wrapS)) (blkN 1) rfl 14
  have e : encI (schedF (labF b wrapS)) (blkN 0) 14 = encI (schedF (labF b wrapS)) (blkN 1) 14 := ext16 l0 l1 fun i hi => by
    have h0 := key i (by omega)
    have h1 := key (16 + i) (by omega)
    unfold mkB at h0 h1
    rw [if_pos hi] at h0
    rw [if_neg (by omega), show 16 + i - 16 = i by omega] at h1
    rw [h0, h1]
  have := (dec_enc (schedF (labF b wrapS)) (blkN 0) rfl).symm.trans ((congrArg _ e).trans (dec_enc (schedF (labF b wrapS)) (blkN 1) rfl))
  exact absurd this (by decide)
end Go.Proofs.YtodkhgofmgaafaaDoor.Av

namespace Go.Proofs.YtodkhgofmgaafaaDoor.Av
open Go
set_option linter.all false
set_option maxRecDepth 3000

theorem opR_free (ks : List (BitVec 8)) : ∀ (l : List Slot) (i : Nat), (∀ s ∈ l, s.used = false) → opR ks l i = (List.replicate 32 0, 0, 30)
  | [], _, _ => rfl
  | s :: r, i, h => by
    obtain ⟨u, t, sa, se, ch⟩ := s
    have hu : u = false := h ⟨u, t, sa, se, ch⟩ (by simp)
    subst hu
    rw [opR_cons, hit_free]
    exact opR_free ks r (i + 1) fun x hx => h x (by simp [hx])
theorem opR_hit (ks : List (BitVec 8)) (r : List Slot) (i n : Nat) (t : BitVec 16) (sa se ch : List (BitVec 8)) (hn : t.toNat = n) (h1 : 1 ≤ n) (h2 : n ≤ 4096) (h : chkF (dkF ks sa n) se = ch) : opR ks (⟨true, t, sa, se, ch⟩ :: r) i = (maskF (dkF ks sa n) se, i, 0) := by
  subst hn
  rw [opR_cons, hit_yes h1 h2, decide_eq_true h]
  rfl
theorem opR_miss (ks : List (BitVec 8)) (r : List Slot) (i n : Nat) (t : BitVec 16) (sa se ch : List (BitVec 8)) (hn : t.toNat = n) (h1 : 1 ≤ n) (h2 : n ≤ 4096) (h : chkF (dkF ks sa n) se ≠ ch) : opR ks (⟨true, t, sa, se, ch⟩ :: r) i = opR ks r (i + 1) := by
  subst hn
  rw [opR_cons, hit_yes h1 h2, decide_eq_false h]
  rfl
theorem tab0_free : ∀ s ∈ tab0, s.used = false := fun s h => by rw [List.eq_of_mem_replicate h]; rfl

/-- what the closed case comes to -/
theorem awake_facts : ∃ s : Slot, s.ok ∧
    AC Tryd.prog 18 [tabD tab0, .slice 0 [] 0 1 (some 1), .u8s saltA, .i64 1, .u8s mastA] 1 [(0, some ⟨.row .cell, .u8s [97], false⟩), gR] ⟨.tup [tabD (s :: List.replicate 7 slot0), .i64 0], [], []⟩ ∧
    AC Tryd.prog 15 [tabD (s :: List.replicate 7 slot0), .slice 0 [] 0 1 (some 1)] 1 [(0, some ⟨.row .cell, .u8s [97], false⟩), gR] ⟨.tup [.u8s mastA, .i64 0, .i64 0], [], []⟩ ∧
    AC Tryd.prog 15 [tabD (s :: List.replicate 7 slot0), .slice 0 [] 0 1 (some 1)] 1 [(0, some ⟨.row .cell, .u8s [98], false⟩), gR] ⟨.tup [.u8s (List.replicate 32 0), .i64 0, .i64 30], [], []⟩ ∧
    AC Tryd.prog 27 [tabD (s :: List.replicate 7 slot0)] 0 [] ⟨.i64 1, [], []⟩ := by
  have hno := opR_free [97] tab0 0 tab0_free
  have hadd := sadd_ac [97] tab0 saltA mastA 1 1 0 (some 1) rfl (fun h => nomatch h) (by decide) tab0_ok rfl rfl (by decide) (by decide) (by rw [hno]) rfl (by decide)
  have hso := sealS_ok (ks := [97]) (n := 1) (salt := saltA) (master := mastA) rfl rfl
  have hT : TabS (sealS [97] saltA 1 mastA :: List.replicate 7 slot0) := ⟨rfl, fun x hx => by
    rcases List.mem_cons.1 hx with h | h
    · rw [h]; exact hso
    · rw [List.eq_of_mem_replicate h]; exact slot0_ok⟩
  have hoa := sopen_ac [97] _ 1 (some 1) rfl (fun h => nomatch h) (by decide) hT
  have hob := sopen_ac [98] _ 1 (some 1) rfl (fun h => nomatch h) (by decide) hT
  have hu := used_ac _ hT
  have hm : maskF (dkF [97] saltA 1) (maskF (dkF [97] saltA 1) mastA) = mastA := mask_mask _ _ rfl
  have e1 : opR [97] (sealS [97] saltA 1 mastA :: List.replicate 7 slot0) 0 = (mastA, 0, 0) := by
    unfold sealS
    rw [opR_hit [97] _ 0 1 _ saltA _ _ rfl (by decide) (by decide) rfl, hm]
  have e2 : opR [98] (sealS [97] saltA 1 mastA :: List.replicate 7 slot0) 0 = (List.replicate 32 0, 0, 30) := by
    unfold sealS
    rw [z_a, opR_miss [98] _ 0 1 _ saltA _ _ rfl (by decide) (by decide) chk_ne]
    exact opR_free [98] _ 1 fun s h => by rw [List.eq_of_mem_replicate h]; rfl
  rw [e1] at hoa
  rw [e2] at hob
  have hus : usedN (sealS [97] saltA 1 mastA :: List.replicate 7 slot0) = 1 := by
    unfold sealS
    generalize chkF (dkF [97] saltA 1) (maskF (dkF [97] saltA 1) mastA) = c
    generalize maskF (dkF [97] saltA 1) mastA = z
    rfl
  rw [hus] at hu
  have hset : tab0.set 0 (sealS [97] saltA 1 mastA) = sealS [97] saltA 1 mastA :: List.replicate 7 slot0 := rfl
  rw [hset] at hadd
  generalize sealS [97] saltA 1 mastA = s at *
  exact ⟨s, hso, hadd, hoa, hob, hu⟩

theorem slawake_ac : AC Tryd.prog 14 [] 0 [gR] ⟨.bool true, [], []⟩ := by
  obtain ⟨⟨u, t, sa, se, ch⟩, ⟨hsa, hse, hch⟩, h1, h2, h3, h4⟩ := awake_facts
  have hsa : sa.length = 16 := hsa
  have hse : se.length = 32 := hse
  have hch : ch.length = 32 := hch
  have hT : hasTy tTab (tabD (⟨u, t, sa, se, ch⟩ :: List.replicate 7 slot0)) := TabS.ty ⟨rfl, fun x hx => by
    rcases List.mem_cons.1 hx with h | h
    · rw [h]; exact ⟨hsa, hse, hch⟩
    · rw [List.eq_of_mem_replicate h]; exact slot0_ok⟩
  have hml : mastA.length = 32 := rfl
  refine acA tab mix Tryd.func14 {} ?_
  repeat first | refine EffG.mk (obA ?_) | refine obA ?_ | refine chkA ?_
  refine callA h1 [0] ?_
  repeat first | refine EffG.mk (obA ?_) | refine obA ?_ | refine chkA ?_
  refine EffG.mk (And.intro ⟨trivial, hT⟩ ?_)
  repeat first | refine EffG.mk (obA ?_) | refine obA ?_ | refine chkA ?_
  refine callA h2 [2] ?_
  repeat first | refine EffG.mk (obA ?_) | refine obA ?_ | refine chkA ?_
  refine callA h3 [4] ?_
  repeat first | refine EffG.mk (obA ?_) | refine obA ?_ | refine chkA ?_ | refine brY ?_ | refine brN ?_
  refine callA h4 [] ?_
  repeat first | refine EffG.mk (obA ?_) | refine obA ?_ | refine chkA ?_ | refine brY ?_ | refine brN ?_
  refine retA []
end Go.Proofs.YtodkhgofmgaafaaDoor.Av

namespace Go.Proofs.YtodkhgofmgaafaaDoor.Av
open Go Go.RowKit Go.Shelf
set_option linter.all false
set_option maxRecDepth 3000

attribute [local go_sem] Oper.semAt_some

set_option maxRecDepth 100000 in
set_option maxHeartbeats 1000000 in
/-- the sectors that bytes touch, one after another -/
theorem sectors1_in (F : Fence) (n : Nat) (hF : F.fn 158) (hn : F.depth.isSome = true → 1 ≤ n) (hro : F.round = none) (l b1 o1 b2 o2 : Nat) (at_ k q c K : Nat) (hq : 512 * q ≤ at_) (hq2 : at_ < 512 * q + 512)
    (hc : c = if k = 0 then 0 else (at_ + k + 511) / 512 - q) (hK : q + c ≤ K) (hb : at_ + k + 512 < 9223372036854775808) {Kp : World → World → Prop}
    {A1 A2 : World → Prop} (r1 : ∀ A, A1 A → A.cell? ⟨b1, o1, none⟩ = some (.int .i64 at_)) (r2 : ∀ A, A2 A → A.cell? ⟨b2, o2, none⟩ = some (.int .i64 k)) (h1 : ∀ A B, Kp A B → A1 A → A1 B) (h2 : ∀ A B, Kp A B → A2 A → A2 B)
    (J Jx : List (Fin K) → World → Prop)
    (hY : ∀ pre (x : Fin K) W, J pre W → pre.length < c → YieldAt F (n - 1) Tryd.prog l #[.int .i64 ((512 * x.val : Nat) : Int)] W fun e W' =>
      (e = .returned (.bool true) ∧ J (pre ++ [x]) W' ∧ Kp W W') ∨ (e = .returned (.bool false) ∧ Jx (pre ++ [x]) W'))
    (W : World) (ha1 : A1 W) (ha2 : A2 W) (h0 : J [] W) :
    CallsIn F n Tryd.prog 158 #[.func (.yield l) #[] #[], .pointer (some ⟨b1, o1, none⟩), .pointer (some ⟨b2, o2, none⟩)] W fun e W' => (∃ v, e = .returned v) ∧
      ((∃ ys, ys.map (·.val) = List.range' q c ∧ J ys W') ∨ (∃ pre, True ∧ Jx pre W')) := by
  have hc1 := r1 _ ha1
  have hc2 := r2 _ ha2
  refine callsIn_of_wp Tryd.func158 rfl hF ?_ hro
  simp only [Tryd.ntmps158, List.size_toArray, List.length_cons, List.length_nil, Nat.reduceAdd, Nat.reduceSub, Array.replicate_succ, Array.replicate_zero, List.push_toArray, List.append_toArray, List.nil_append, List.cons_append]
  gi_wp2
  have hi : ∀ i : Nat, ((512 * (q + i) : Nat) : Int) + 512 = ((512 * (q + (i + 1)) : Nat) : Int) := fun i => by omega
  gi_loopw [4] (fun s wr => ∃ (pre : List (Fin K)), s = .int .i64 ((512 * (q + pre.length) : Nat) : Int) ∧ pre.map (·.val) = List.range' q pre.length ∧ pre.length ≤ c ∧ J pre wr ∧ A1 wr ∧ A2 wr)
    (fun s _ => match s with | .int _ s => (512 * (q + c) - s).toNat | _ => 0)
  case atStart =>
    refine ⟨[], ?_, rfl, by simp, h0, ha1, ha2⟩
    simp only [List.length_nil, Nat.add_zero]
    congr 1
    omega
  case round =>
    obtain ⟨pre, rfl, hp, hle, hJ, hA1, hA2⟩ := hrel
    have hd1 := r1 _ hA1
    have hd2 := r2 _ hA2
    by_cases hlt : pre.length < c
    · have hk0 : 0 < k := Nat.pos_of_ne_zero (fun h => by rw [if_pos h] at hc; omega)
      have hcc : c = (at_ + k + 511) / 512 - q := by rw [hc, if_neg (by omega)]
      obtain ⟨fn, tmps, assign, body, hy, hR⟩ := hY pre ⟨q + pre.length, by omega⟩ wr hJ hlt
      push_cast at hy
      gi_wp2
      refine ⟨hn, hR.mono ?_⟩
      rintro e W3 (⟨rfl, hJ3, hk3⟩ | ⟨rfl, hJx3⟩)
      · have hA13 := h1 _ _ hk3 hA1
        have hA23 := h2 _ _ hk3 hA2
        have hd13 := r1 _ hA13
        have hd23 := r2 _ hA23
        gi_wp2
        go_roundw
        case rel =>
          refine ⟨pre ++ [⟨q + pre.length, by omega⟩], ?_, ?_, by simp; omega, hJ3, hA13, hA23⟩
          · congr 1; simp; omega
          · simp only [List.map_append, hp, List.length_append, List.length_cons, List.length_nil, Nat.zero_add]
            rw [List.range'_1_concat]; rfl
        case measure => simp; omega
      · gi_wp2
        refine bodyPost_ret (results_none rfl _ _ _) rfl ?_
        exact ⟨⟨_, rfl⟩, .inr ⟨pre ++ [⟨q + pre.length, by omega⟩], trivial, hJx3⟩⟩
    · have he : pre.length = c := by omega
      have hp' : pre.map (·.val) = List.range' q c := he ▸ hp
      by_cases hk0 : k = 0
      · have hz : pre = [] := List.length_eq_zero_iff.1 (by rw [he, hc, if_pos hk0])
        rw [hz] at hJ
        subst hk0
        gi_wp2
        go_end0
        exact ⟨⟨_, rfl⟩, .inl hJ⟩
      · have hcc : c = (at_ + k + 511) / 512 - q := by rw [hc, if_neg (by omega)]
        have hkp : 0 < k := by omega
        gi_wp2
        go_end0
        exact ⟨⟨_, rfl⟩, .inl ⟨_, hp', hJ⟩⟩

/-- the cell that a captured number lies in -/
theorem satX_cell {ρ : Env} {rw : Bool} {n : Int} {L : Loc} {w : World} (h : SatX ρ ⟨.cell, .i64 n, rw⟩ L w) : L.ty = .cell ∧ L.blk < w.heap.size ∧ w.cell? ⟨L.blk, L.base, none⟩ = some (.int .i64 n) := by
  obtain ⟨ρ', hle, hs⟩ := h
  obtain ⟨_, vs, hv, hr⟩ := hs.read (p := []) (T := .cell) (x := .i64 n) rfl trivial rfl
  match vs, hv with
  | [v], ⟨hv, _⟩ =>
    have e := hr 0 v rfl
    obtain ⟨rfl, _⟩ : v = .int .i64 n ∧ _ := hv
    have ho : offAt L.ty [] = 0 := rfl
    exact ⟨hs.ty, hs.lt, by rw [ho] at e; exact e⟩
theorem satX_below {ρ : Env} {e : Ent} {L : Loc} {w W : World} (h : SatX ρ e L w) (hb : Below w.heap.size w W) : SatX ρ e L W := by
  obtain ⟨ρ', hle, hs⟩ := h
  exact ⟨ρ', hle, hs.same (hb.block _ hs.lt)⟩

theorem sectors1_gen (b1 b2 at_ k q c K : Nat) {rw1 rw2 : Bool} (hq : 512 * q ≤ at_) (hq2 : at_ < 512 * q + 512) (hc : c = if k = 0 then 0 else (at_ + k + 511) / 512 - q) (hK : q + c ≤ K) (hb : at_ + k + 512 < 9223372036854775808) (hK2 : 512 * K < 9223372036854775808) :
    GenC Tryd.prog 158 [.ptr b1 [], .ptr b2 []] [(b1, ⟨.cell, .i64 at_, rw1⟩), (b2, ⟨.cell, .i64 k, rw2⟩)] (fun x : Fin K => .i64 (512 * x.val : Nat)) (fun ys => ys.map (·.val) = List.range' q c) c := by
  refine ⟨⟨_, Tryd.func158, rfl, rfl⟩, fun ρ lb w n hl hE => ?_⟩
  obtain ⟨L1, e1, s1⟩ := hE _ (.head _)
  obtain ⟨L2, e2, s2⟩ := hE _ (.tail _ (.head _))
  match lb, hl with
  | [v1, v2], ⟨h1, h2, _⟩ =>
    obtain ⟨L1', g1, rfl⟩ := h1
    obtain ⟨L2', g2, rfl⟩ := h2
    cases e1.symm.trans g1
    cases e2.symm.trans g2
    refine ⟨fun x => .int .i64 (512 * x.val : Nat), fun x => ⟨rfl, by omega, by have := x.isLt; omega⟩, fun l J Jx W hW _ _ hY h0 => ?_⟩
    have k1 := satX_cell s1
    have k2 := satX_cell s2
    exact sectors1_in (FW none) n trivial (fun h => by cases h) rfl l L1.blk L1.base L2.blk L2.base at_ k q c K hq hq2 hc hK hb (Kp := KpE ρ _) (A1 := SatX ρ ⟨.cell, .i64 at_, rw1⟩ L1) (A2 := SatX ρ ⟨.cell, .i64 k, rw2⟩ L2)
      (fun A hA => (satX_cell hA).2.2) (fun A hA => (satX_cell hA).2.2) (fun A B hk hA => hk _ (.head _) L1 e1 hA) (fun A B hk hA => hk _ (.tail _ (.head _)) L2 e2 hA) J Jx
      hY W (satX_below s1 hW) (satX_below s2 hW) h0
end Go.Proofs.YtodkhgofmgaafaaDoor.Av

namespace Go.Proofs.YtodkhgofmgaafaaDoor.Av
open Go
set_option linter.all false
set_option maxRecDepth 3000

abbrev tDv : Ty := .st [.cell, .cell, .cell, .cell, .cell, .cell, .cell]
abbrev tLo : Ty := .st [.cell, .cell, .arr 512 .cell]

/-- bytes laid over others -/
def layF (S B : List (BitVec 8)) (p : Nat) : List (BitVec 8) := S.take p ++ B ++ S.drop (p + B.length)
theorem layF_length {S B : List (BitVec 8)} {p : Nat} (h : p + B.length ≤ S.length) : (layF S B p).length = S.length := by
  simp [layF]; omega

theorem dnew_ac (k : Int) : AC Tryd.prog 72 [.i64 k] 0 [] ⟨.ptr 0 [], [], [(tDv, .node [.i64 (max 0 (min k 16777216)), .nilslice, .nilslice, .nilslice, .i64 0, .bool false, .nilptr])]⟩ := by
  refine acA tab mix Tryd.func72 {} ?_
  repeat first | refine EffG.mk (obA ?_) | refine obA ?_ | refine chkA ?_ | refine brY ?_ | refine brN ?_
  refine retA [0]

theorem lay_ac (S B : List (BitVec 8)) (p o k N : Nat) (cap cap2 : Option Nat) (hN : S.length = N) (h : p + k ≤ N) (hB : o + k ≤ B.length) (h0 : 0 < k) (hS : N < 4611686018427387904) :
    AC Tryd.prog 87 [.slice 0 [] 0 N cap, .i64 p, .slice 1 [] o k cap2] 2 [(0, some ⟨.row .cell, .u8s S, true⟩), (1, some ⟨.row .cell, .u8s B, false⟩)] ⟨.slice 0 [] 0 N cap, [(0, some (.u8s (layF S ((B.drop o).take k) p)))], []⟩ := by
  have hk : ((B.drop o).take k).length = k := by rw [List.length_take, List.length_drop]; omega
  have e : layF S ((B.drop o).take k) p = List.take (0 + p) S ++ List.take (k.min (N - p)) (List.drop o B) ++ List.drop (0 + p + k.min (N - p)) S := by
    have : k.min (N - p) = k := Nat.min_eq_left (by omega)
    rw [layF, hk, this, Nat.zero_add]
  rw [e]
  refine acA tab mix Tryd.func87 {} ?_
  repeat first | refine EffG.mk (obA ?_) | refine obA ?_ | refine chkA ?_ | refine brY ?_ | refine brN ?_
  refine retA [0, 1]

/-- a write of a sector that is not safe -/
structure Lo where
  at' : Nat
  n : Nat
  bytes : List (BitVec 8)
def loD (l : Lo) : D := .node [.i64 l.at', .i64 l.n, .u8s l.bytes]
abbrev losD (l : List Lo) : D := .node (l.map loD)
theorem ren_los (s : Nat → Nat) : ∀ l : List Lo, D.rens s (l.map loD) = l.map loD
  | [] => rfl
  | a :: l => congrArg (loD a :: ·) (ren_los s l)
instance (l : List Lo) : Pure (losD l) := ⟨fun s => congrArg D.node (ren_los s l)⟩
def looD (b : Nat) : List Lo → D
  | [] => .nilslice
  | a :: l => .slice b [] 0 (l.length + 1) none
abbrev looM (b : Nat) : List Lo → Mem
  | [] => []
  | a :: l => [(b, some ⟨.row tLo, losD (a :: l), true⟩)]
theorem los_ty : ∀ {l : List Lo}, (∀ x ∈ l, x.bytes.length = 512) → AllD (hasTy tLo) (l.map loD)
  | [], _ => trivial
  | s :: l, h => ⟨⟨rfl, rfl, h s (by simp), trivial⟩, los_ty fun x hx => h x (by simp [hx])⟩

/-- a device that is loaded: its struct is 0, what is seen 1, what is safe 2, what is loose 3 -/
abbrev dvD (most N : Nat) (cap : Option Nat) (N2 : Nat) (cap2 : Option Nat) (lo : D) (st : Nat) : D := .node [.i64 most, .slice 1 [] 0 N cap, .slice 2 [] 0 N2 cap2, lo, .i64 st, .bool false, .nilptr]

theorem up_ac (most N : Nat) (cap : Option Nat) (N2 : Nat) (cap2 : Option Nat) (ls : List Lo) (st : Nat) :
    AC Tryd.prog 138 [.ptr 0 []] 4 [(0, some ⟨tDv, dvD most N cap N2 cap2 (looD 3 ls) st, false⟩)] ⟨.i64 0, [], []⟩ := by
  refine acA tab mix Tryd.func138 {} ?_
  cases ls
  all_goals
    repeat first | refine EffG.mk (obA ?_) | refine obA ?_ | refine chkA ?_ | refine brY ?_ | refine brN ?_
    refine retA [0, 1, 2, 3]

theorem sectors_ac (p k : Nat) (hp : p < 9223372036854775808) (hk : k < 9223372036854775808) : AC Tryd.prog 141 [.i64 p, .i64 k] 0 [] ⟨.fn 158 [] [.ptr 0 [], .ptr 1 []], [], [(.cell, .i64 p), (.cell, .i64 k)]⟩ := by
  refine acA tab mix Tryd.func141 {} ?_
  repeat first | refine EffG.mk (obA ?_) | refine obA ?_ | refine chkA ?_ | refine brY ?_ | refine brN ?_
  refine retA [0, 1]

abbrev loF (S : List (BitVec 8)) (q : Nat) : Lo := ⟨512 * q, 512, (S.drop (512 * q)).take 512⟩
theorem loB_eq (S : List (BitVec 8)) (N x : Nat) (h : 512 * x + 512 ≤ N) :
    List.take 0 (List.replicate 512 0) ++ List.take ((N - 512 * x).min (512 - 0)) (List.drop (0 + 512 * x) S) ++ List.drop (0 + (N - 512 * x).min (512 - 0)) (List.replicate 512 0) = (loF S x).bytes := by
  have e : (N - 512 * x).min (512 - 0) = 512 := Nat.min_eq_right (by omega)
  rw [e]; simp
theorem loB_length (S : List (BitVec 8)) (x : Nat) (h : 512 * x + 512 ≤ S.length) : (loF S x).bytes.length = 512 := by
  simp; omega
theorem lo_view {S : List (BitVec 8)} {x a : Nat} {b : List (BitVec 8)} (h1 : a = 512) (h2 : b = (loF S x).bytes) : D.node [.i64 (512 * x : Nat), .i64 (a : Nat), .u8s b] = loD (loF S x) := by subst h1; subst h2; rfl
theorem allD_app {P : D → Prop} : ∀ {a b : List D}, AllD P a → AllD P b → AllD P (a ++ b)
  | [], _, _, h => h
  | _ :: _, _, ⟨h1, h2⟩, h => ⟨h1, allD_app h2 h⟩
theorem los_step {ls : List Lo} (h : ∀ x ∈ ls, x.bytes.length = 512) {S : List (BitVec 8)} {x a : Nat} {b : List (BitVec 8)} (h1 : a = 512) (h2 : b = (loF S x).bytes) (h3 : (loF S x).bytes.length = 512) :
    AllD (hasTy tLo) ((ls.map loD).take ls.length ++ [D.node [.i64 (512 * x : Nat), .i64 (a : Nat), .u8s b]]) := by
  rw [lo_view h1 h2, List.take_of_length_le (by simp)]
  exact allD_app (los_ty h) ⟨⟨rfl, rfl, h3, trivial⟩, trivial⟩
theorem los_view {l0 : Lo} {ls : List Lo} {S : List (BitVec 8)} {x a : Nat} {b : List (BitVec 8)} (h1 : a = 512) (h2 : b = (loF S x).bytes) :
    D.node (((l0 :: ls).map loD).take (ls.length + 1) ++ [D.node [.i64 (512 * x : Nat), .i64 (a : Nat), .u8s b]]) = losD ((l0 :: ls) ++ [loF S x]) := by
  rw [lo_view h1 h2, List.take_of_length_le (by simp)]
  simp [losD]
theorem write1_ac (most N : Nat) (cap : Option Nat) (N2 : Nat) (cap2 : Option Nat) (ls : List Lo) (hls : ∀ x ∈ ls, x.bytes.length = 512) (st q o : Nat) (cap3 : Option Nat) (S B : List (BitVec 8)) (hS : S.length = N) (hq : 512 * q + 512 ≤ N) (hB : o + 512 ≤ B.length) (hN : N < 4611686018427387904) (hl : ls.length < 1000) :
    AC Tryd.prog 140 [.ptr 4 [], .ptr 5 [], .ptr 6 []] 8
      (looM 3 ls ++ [(0, some ⟨tDv, dvD most N cap N2 cap2 (looD 3 ls) st, true⟩), (1, some ⟨.row .cell, .u8s S, true⟩), (4, some ⟨.cell, .ptr 0 [], true⟩), (5, some ⟨.cell, .i64 (512 * q : Nat), true⟩), (6, some ⟨.cell, .slice 7 [] o 512 cap3, true⟩), (7, some ⟨.row .cell, .u8s B, false⟩)])
      ⟨.tup [], (looM 3 ls).map (fun p => (p.1, none)) ++ [(0, some (dvD most N cap N2 cap2 (.slice 8 [] 0 (ls.length + 1) none) st)), (1, some (.u8s (layF S ((B.drop o).take 512) (512 * q))))],
       [(.row tLo, losD (ls ++ [loF (layF S ((B.drop o).take 512) (512 * q)) q]))]⟩ := by
  have hlay := lay_ac S B (512 * q) o 512 N cap cap3 hS hq hB (by decide) hN
  have hsec := sectors_ac (512 * q) 512 (by omega) (by decide)
  have hL : (layF S ((B.drop o).take 512) (512 * q)).length = N := by rw [layF_length]; exact hS; rw [List.length_take, List.length_drop]; omega
  generalize layF S ((B.drop o).take 512) (512 * q) = S' at hlay hL ⊢
  refine acA tab mix Tryd.func140 {} ?_
  cases ls
  · repeat first | refine EffG.mk (obA ?_) | refine obA ?_ | refine chkA ?_ | refine brY ?_ | refine brN ?_
    refine callA hlay [1, 7] ?_
    repeat first | refine EffG.mk (obA ?_) | refine obA ?_ | refine chkA ?_ | refine brY ?_ | refine brN ?_
    refine callA hsec [] ?_
    repeat first | refine EffG.mk (obA ?_) | refine obA ?_ | refine chkA ?_ | refine brY ?_ | refine brN ?_
    have hg := sectors1_gen 8 9 (512 * q) 512 q 1 (N / 512) (rw1 := true) (rw2 := true) (by omega) (by omega) (by rw [if_neg (by decide)]; omega) (by omega) (by omega) (by omega)
    refine RangeG.mk ⟨158, [.ptr 8 [], .ptr 9 []], [(8, ⟨.cell, .i64 (512 * q : Nat), true⟩), (9, ⟨.cell, .i64 (512 : Nat), true⟩)], Fin (N / 512), fun x => .i64 (512 * x.val : Nat), fun ys => ys.map (·.val) = List.range' q 1, 1, 19, 3, 2, _,
      fun pre => match pre with
        | [] => [(0, some ⟨tDv, dvD most N cap N2 cap2 .nilslice st, true⟩), (1, some ⟨.row .cell, .u8s S', true⟩), (4, some ⟨.cell, .ptr 0 [], true⟩), (5, some ⟨.cell, .i64 (512 * q : Nat), true⟩), (6, some ⟨.cell, .slice 7 [] o 512 cap3, true⟩), (7, some ⟨.row .cell, .u8s B, false⟩), (8, some ⟨.cell, .i64 (512 * q : Nat), true⟩), (9, some ⟨.cell, .i64 (512 : Nat), true⟩)]
        | x :: _ => [(0, some ⟨tDv, dvD most N cap N2 cap2 (.slice 10 [] 0 1 none) st, true⟩), (1, some ⟨.row .cell, .u8s S', true⟩), (4, some ⟨.cell, .ptr 0 [], true⟩), (5, some ⟨.cell, .i64 (512 * q : Nat), true⟩), (6, some ⟨.cell, .slice 7 [] o 512 cap3, true⟩), (7, some ⟨.row .cell, .u8s B, false⟩), (8, some ⟨.cell, .i64 (512 * q : Nat), true⟩), (9, some ⟨.cell, .i64 (512 : Nat), true⟩), (10, some ⟨.row tLo, losD [loF S' x.val], true⟩)],
      11, [0, 1, 2, 3, 4, 5, 6, 7, 8, 9], rfl, hg, ⟨rfl, rfl, rfl, rfl, rfl, by decide, by decide⟩, ?_, ?_, ?_, ?_⟩
    · intro p hp
      rcases List.mem_cons.1 hp with rfl | hp
      · exact ⟨Nat.le_of_ble_eq_true rfl, rfl, fun pre => by cases pre <;> rfl⟩
      rcases List.mem_cons.1 hp with rfl | hp
      · exact ⟨Nat.le_of_ble_eq_true rfl, rfl, fun pre => by cases pre <;> rfl⟩
      cases hp
    · exact viewA
    · intro pre x hlt
      obtain rfl : pre = [] := by cases pre; rfl; simp at hlt
      have hx : 512 * x.val + 512 ≤ N := by have := x.isLt; omega
      have e1 := loB_eq S' N x.val hx
      have e2 := loB_length S' x.val (by omega)
      have e3 : (N - 512 * x.val).min (512 - 0) = 512 := Nat.min_eq_right (by omega)
      repeat first | refine EffG.mk (obA ?_) | refine obA ?_ | refine chkA ?_ | refine brY ?_ | refine brN ?_
      refine ⟨1, ?_⟩
      refine EffG.mk (And.intro ?_ ?_)
      · (repeat' (first | exact trivial | refine And.intro ?_ ?_)) <;> first | omega | exact Nat.le_refl _ | rfl | exact (congrArg List.length e1).trans e2 | decide
      repeat first | refine EffG.mk (obA ?_) | refine obA ?_ | refine chkA ?_ | refine brY ?_ | refine brN ?_
      refine ⟨[0, 1, 2, 3, 4, 5, 6, 7, 8, 9, 13], viewA (h3 := ?_)⟩
      (repeat' (first | exact trivial | refine And.intro ⟨_, rfl, rfl, ?_, id⟩ ?_ | refine And.intro ⟨_, rfl, rfl, ?_, fun _ => rfl⟩ ?_)) <;> first | rfl | exact (congrArg (fun d => D.node [d]) (lo_view e3 e1)).trans (Pure.ren (d := losD [loF S' x.val]) _).symm
    · intro xs hxs
      have hx1 : ∃ x : Fin (N / 512), xs = [x] ∧ x.val = q := by
        match xs, hxs with
        | [x], h => exact ⟨x, rfl, by simpa using h⟩
      obtain ⟨x, rfl, rfl⟩ := hx1
      repeat first | refine EffG.mk (obA ?_) | refine obA ?_ | refine chkA ?_ | refine brY ?_ | refine brN ?_
      refine retA [0, 1, 2, 3, 4, 5, 6, 7, 10]
  · rename_i l0 ls
    have hl2 : ls.length + 1 < 1000 := hl
    have hls1 := hls l0 (by simp)
    have hls2 : ∀ x ∈ ls, x.bytes.length = 512 := fun x hx => hls x (by simp [hx])
    repeat first | refine EffG.mk (obA ?_) | refine obA ?_ | refine chkA ?_ | refine brY ?_ | refine brN ?_
    refine callA hlay [1, 7] ?_
    repeat first | refine EffG.mk (obA ?_) | refine obA ?_ | refine chkA ?_ | refine brY ?_ | refine brN ?_
    refine callA hsec [] ?_
    repeat first | refine EffG.mk (obA ?_) | refine obA ?_ | refine chkA ?_ | refine brY ?_ | refine brN ?_
    have hg := sectors1_gen 8 9 (512 * q) 512 q 1 (N / 512) (rw1 := true) (rw2 := true) (by omega) (by omega) (by rw [if_neg (by decide)]; omega) (by omega) (by omega) (by omega)
    refine RangeG.mk ⟨158, [.ptr 8 [], .ptr 9 []], [(8, ⟨.cell, .i64 (512 * q : Nat), true⟩), (9, ⟨.cell, .i64 (512 : Nat), true⟩)], Fin (N / 512), fun x => .i64 (512 * x.val : Nat), fun ys => ys.map (·.val) = List.range' q 1, 1, 19, 3, 2, _,
      fun pre => match pre with
        | [] => [(0, some ⟨tDv, dvD most N cap N2 cap2 (.slice 3 [] 0 (ls.length + 1) none) st, true⟩), (1, some ⟨.row .cell, .u8s S', true⟩), (3, some ⟨.row tLo, losD (l0 :: ls), true⟩), (4, some ⟨.cell, .ptr 0 [], true⟩), (5, some ⟨.cell, .i64 (512 * q : Nat), true⟩), (6, some ⟨.cell, .slice 7 [] o 512 cap3, true⟩), (7, some ⟨.row .cell, .u8s B, false⟩), (8, some ⟨.cell, .i64 (512 * q : Nat), true⟩), (9, some ⟨.cell, .i64 (512 : Nat), true⟩)]
        | x :: _ => [(0, some ⟨tDv, dvD most N cap N2 cap2 (.slice 10 [] 0 (ls.length + 1 + 1) none) st, true⟩), (1, some ⟨.row .cell, .u8s S', true⟩), (4, some ⟨.cell, .ptr 0 [], true⟩), (5, some ⟨.cell, .i64 (512 * q : Nat), true⟩), (6, some ⟨.cell, .slice 7 [] o 512 cap3, true⟩), (7, some ⟨.row .cell, .u8s B, false⟩), (8, some ⟨.cell, .i64 (512 * q : Nat), true⟩), (9, some ⟨.cell, .i64 (512 : Nat), true⟩), (10, some ⟨.row tLo, losD ((l0 :: ls) ++ [loF S' x.val]), true⟩)],
      11, [0, 1, 2, 3, 4, 5, 6, 7, 8, 9], rfl, hg, ⟨rfl, rfl, rfl, rfl, rfl, by decide, by decide⟩, ?_, ?_, ?_, ?_⟩
    · intro p hp
      rcases List.mem_cons.1 hp with rfl | hp
      · exact ⟨Nat.le_of_ble_eq_true rfl, rfl, fun pre => by cases pre <;> rfl⟩
      rcases List.mem_cons.1 hp with rfl | hp
      · exact ⟨Nat.le_of_ble_eq_true rfl, rfl, fun pre => by cases pre <;> rfl⟩
      cases hp
    · exact viewA
    · intro pre x hlt
      obtain rfl : pre = [] := by cases pre; rfl; simp at hlt
      have hx : 512 * x.val + 512 ≤ N := by have := x.isLt; omega
      have e1 := loB_eq S' N x.val hx
      have e2 := loB_length S' x.val (by omega)
      have e3 : (N - 512 * x.val).min (512 - 0) = 512 := Nat.min_eq_right (by omega)
      repeat first | refine EffG.mk (obA ?_) | refine obA ?_ | refine chkA ?_ | refine brY ?_ | refine brN ?_
      refine ⟨0, ?_⟩
      refine EffG.mk (And.intro ?_ ?_)
      · (repeat' (first | exact trivial | refine And.intro ?_ ?_)) <;> first | omega | exact Nat.le_refl _ | rfl | exact (congrArg List.length e1).trans e2 | decide | exact (show (ls.length + 1 + 1) * 528 ≤ 140737488355328 by omega) | exact (show ls.length + 1 + 1 < 9223372036854775808 by omega) | exact hls1 | exact (show 0 + (ls.length + 1) ≤ ((l0 :: ls).map loD).length by rw [List.length_map, List.length_cons]; omega) | exact los_step hls2 e3 e1 e2
      repeat first | refine EffG.mk (obA ?_) | refine obA ?_ | refine chkA ?_ | refine brY ?_ | refine brN ?_
      refine ⟨[0, 1, 2, 3, 4, 5, 6, 7, 8, 9, 13], viewA (h3 := ?_)⟩
      (repeat' (first | exact trivial | refine And.intro ⟨_, rfl, rfl, ?_, id⟩ ?_ | refine And.intro ⟨_, rfl, rfl, ?_, fun _ => rfl⟩ ?_)) <;> first | rfl | exact (los_view e3 e1).trans (Pure.ren (d := losD ((l0 :: ls) ++ [loF S' x.val])) _).symm
    · intro xs hxs
      have hx1 : ∃ x : Fin (N / 512), xs = [x] ∧ x.val = q := by
        match xs, hxs with
        | [x], h => exact ⟨x, rfl, by simpa using h⟩
      obtain ⟨x, rfl, rfl⟩ := hx1
      repeat first | refine EffG.mk (obA ?_) | refine obA ?_ | refine chkA ?_ | refine brY ?_ | refine brN ?_
      refine retA [0, 1, 2, 3, 4, 5, 6, 7, 10]
end Go.Proofs.YtodkhgofmgaafaaDoor.Av

namespace Go.Proofs.YtodkhgofmgaafaaDoor.Av
open Go
set_option linter.all false
set_option maxRecDepth 3000

theorem step_ac (most N : Nat) (cap : Option Nat) (N2 : Nat) (cap2 : Option Nat) (ls : List Lo) (hls : ∀ x ∈ ls, x.bytes.length = 512) (st q o : Nat) (cap3 : Option Nat) (S B : List (BitVec 8)) (hS : S.length = N) (hq : 512 * q + 512 ≤ N) (hB : o + 512 ≤ B.length) (hN : N < 4611686018427387904) (hl : ls.length < 1000) (hst : st < 1000) :
    AC Tryd.prog 139 [.ptr 0 [], .fn 140 [] [.ptr 4 [], .ptr 5 [], .ptr 6 []]] 8
      (looM 3 ls ++ [(0, some ⟨tDv, dvD most N cap N2 cap2 (looD 3 ls) st, true⟩), (1, some ⟨.row .cell, .u8s S, true⟩), (4, some ⟨.cell, .ptr 0 [], true⟩), (5, some ⟨.cell, .i64 (512 * q : Nat), true⟩), (6, some ⟨.cell, .slice 7 [] o 512 cap3, true⟩), (7, some ⟨.row .cell, .u8s B, false⟩)])
      ⟨.i64 0, (looM 3 ls).map (fun p => (p.1, none)) ++ [(0, some (dvD most N cap N2 cap2 (.slice 8 [] 0 (ls.length + 1) none) (st + 1))), (1, some (.u8s (layF S ((B.drop o).take 512) (512 * q))))],
       [(.row tLo, losD (ls ++ [loF (layF S ((B.drop o).take 512) (512 * q)) q]))]⟩ := by
  have hw := write1_ac most N cap N2 cap2 ls hls (st + 1) q o cap3 S B hS hq hB hN hl
  generalize layF S ((B.drop o).take 512) (512 * q) = S' at hw ⊢
  refine acA tab mix Tryd.func139 {} ?_
  cases ls
  · repeat first | refine EffG.mk (obA ?_) | refine obA ?_ | refine chkA ?_ | refine brY ?_ | refine brN ?_
    refine callA hw [0, 1, 2, 3, 4, 5, 6, 7] ?_
    repeat first | refine EffG.mk (obA ?_) | refine obA ?_ | refine chkA ?_ | refine brY ?_ | refine brN ?_
    refine retA [0, 1, 2, 3, 4, 5, 6, 7, 8]
  · repeat first | refine EffG.mk (obA ?_) | refine obA ?_ | refine chkA ?_ | refine brY ?_ | refine brN ?_
    refine callA hw [0, 1, 2, 3, 4, 5, 6, 7] ?_
    repeat first | refine EffG.mk (obA ?_) | refine obA ?_ | refine chkA ?_ | refine brY ?_ | refine brN ?_
    refine retA [0, 1, 2, 3, 4, 5, 6, 7, 8]

theorem dwrite_ac (most N : Nat) (cap : Option Nat) (N2 : Nat) (cap2 : Option Nat) (ls : List Lo) (hls : ∀ x ∈ ls, x.bytes.length = 512) (st q o : Nat) (cap3 : Option Nat) (S B : List (BitVec 8)) (hS : S.length = N) (hq : 512 * q + 512 ≤ N) (hB : o + 512 ≤ B.length) (hN : N ≤ most) (hm : most ≤ 16777216) (hl : ls.length < 1000) (hst : st < 1000) :
    AC Tryd.prog 111 [.ptr 0 [], .i64 (512 * q : Nat), .slice 4 [] o 512 cap3] 5
      (looM 3 ls ++ [(0, some ⟨tDv, dvD most N cap N2 cap2 (looD 3 ls) st, true⟩), (1, some ⟨.row .cell, .u8s S, true⟩), (4, some ⟨.row .cell, .u8s B, false⟩)])
      ⟨.i64 0, (looM 3 ls).map (fun p => (p.1, none)) ++ [(0, some (dvD most N cap N2 cap2 (.slice 5 [] 0 (ls.length + 1) none) (st + 1))), (1, some (.u8s (layF S ((B.drop o).take 512) (512 * q))))],
       [(.row tLo, losD (ls ++ [loF (layF S ((B.drop o).take 512) (512 * q)) q]))]⟩ := by
  have hw := step_ac most N cap N2 cap2 ls hls st q o cap3 S B hS hq hB (by omega) hl hst
  have hu := up_ac most N cap N2 cap2 ls st
  generalize layF S ((B.drop o).take 512) (512 * q) = S' at hw ⊢
  refine acA tab mix Tryd.func111 {} ?_
  cases ls
  · repeat first | refine EffG.mk (obA ?_) | refine obA ?_ | refine chkA ?_ | refine brY ?_ | refine brN ?_
    refine callA hu [0, 1, 2, 3] ?_
    repeat first | refine EffG.mk (obA ?_) | refine obA ?_ | refine chkA ?_ | refine brY ?_ | refine brN ?_
    refine callA hw [0, 1, 2, 3, 5, 6, 7, 4] ?_
    repeat first | refine EffG.mk (obA ?_) | refine obA ?_ | refine chkA ?_ | refine brY ?_ | refine brN ?_
    refine retA [0, 1, 2, 3, 4, 8]
  · repeat first | refine EffG.mk (obA ?_) | refine obA ?_ | refine chkA ?_ | refine brY ?_ | refine brN ?_
    refine callA hu [0, 1, 2, 3] ?_
    repeat first | refine EffG.mk (obA ?_) | refine obA ?_ | refine chkA ?_ | refine brY ?_ | refine brN ?_
    refine callA hw [0, 1, 2, 3, 5, 6, 7, 4] ?_
    repeat first | refine EffG.mk (obA ?_) | refine obA ?_ | refine chkA ?_ | refine brY ?_ | refine brN ?_
    refine retA [0, 1, 2, 3, 4, 8]

theorem dread0_ac (most N : Nat) (cap : Option Nat) (N2 : Nat) (cap2 : Option Nat) (ls : List Lo) (st p k : Nat) (S : List (BitVec 8)) (hS : S.length = N) (hq : p + k ≤ N) (hN : N < 70368744177664) :
    AC Tryd.prog 117 [.ptr 0 [], .i64 p, .i64 k] 4
      [(0, some ⟨tDv, dvD most N cap N2 cap2 (looD 3 ls) st, false⟩), (1, some ⟨.row .cell, .u8s S, false⟩)]
      ⟨.tup [.slice 4 [] 0 (((p : Int) + (k : Int)).toNat - p) none, .i64 0], [], [(.row .cell, .u8s ((S.drop (0 + p)).take (((p : Int) + (k : Int)).toNat - p)))]⟩ := by
  have hu := up_ac most N cap N2 cap2 ls st
  have hc := clone_ac S (0 + p) (((p : Int) + (k : Int)).toNat - p) (cap.map (· - p)) (by omega) (by omega)
  refine acA tab mix Tryd.func117 {} ?_
  cases ls
  · repeat first | refine EffG.mk (obA ?_) | refine obA ?_ | refine chkA ?_ | refine brY ?_ | refine brN ?_
    refine callA hu [0, 1, 2, 3] ?_
    repeat first | refine EffG.mk (obA ?_) | refine obA ?_ | refine chkA ?_ | refine brY ?_ | refine brN ?_
    refine callA hc [1] ?_
    repeat first | refine EffG.mk (obA ?_) | refine obA ?_ | refine chkA ?_ | refine brY ?_ | refine brN ?_
    refine retA [0, 1, 2, 3, 4]
  · repeat first | refine EffG.mk (obA ?_) | refine obA ?_ | refine chkA ?_ | refine brY ?_ | refine brN ?_
    refine callA hu [0, 1, 2, 3] ?_
    repeat first | refine EffG.mk (obA ?_) | refine obA ?_ | refine chkA ?_ | refine brY ?_ | refine brN ?_
    refine callA hc [1] ?_
    repeat first | refine EffG.mk (obA ?_) | refine obA ?_ | refine chkA ?_ | refine brY ?_ | refine brN ?_
    refine retA [0, 1, 2, 3, 4]
theorem dread_ac (most N : Nat) (cap : Option Nat) (N2 : Nat) (cap2 : Option Nat) (ls : List Lo) (st p k : Nat) (S : List (BitVec 8)) (hS : S.length = N) (hq : p + k ≤ N) (hN : N < 70368744177664) :
    AC Tryd.prog 117 [.ptr 0 [], .i64 p, .i64 k] 4
      [(0, some ⟨tDv, dvD most N cap N2 cap2 (looD 3 ls) st, false⟩), (1, some ⟨.row .cell, .u8s S, false⟩)]
      ⟨.tup [.slice 4 [] 0 k none, .i64 0], [], [(.row .cell, .u8s ((S.drop p).take k))]⟩ := by
  have h := dread0_ac most N cap N2 cap2 ls st p k S hS hq hN
  rw [show ((p : Int) + (k : Int)).toNat - p = k by omega, Nat.zero_add] at h
  exact h
theorem dbytes_ac (most N : Nat) (cap : Option Nat) (N2 : Nat) (cap2 : Option Nat) (ls : List Lo) (st : Nat) (S : List (BitVec 8)) (hS : S.length = N) (hN : N < 70368744177664) :
    AC Tryd.prog 32 [.ptr 0 []] 4
      [(0, some ⟨tDv, dvD most N cap N2 cap2 (looD 3 ls) st, false⟩), (1, some ⟨.row .cell, .u8s S, false⟩)]
      ⟨.slice 4 [] 0 N none, [], [(.row .cell, .u8s S)]⟩ := by
  have hc := clone_ac S 0 N cap (by omega) (by omega)
  rw [List.drop_zero, List.take_of_length_le (by omega)] at hc
  refine acA tab mix Tryd.func32 {} ?_
  cases ls
  · repeat first | refine EffG.mk (obA ?_) | refine obA ?_ | refine chkA ?_ | refine brY ?_ | refine brN ?_
    refine callA hc [1] ?_
    repeat first | refine EffG.mk (obA ?_) | refine obA ?_ | refine chkA ?_ | refine brY ?_ | refine brN ?_
    refine retA [0, 1, 2, 3, 4]
  · repeat first | refine EffG.mk (obA ?_) | refine obA ?_ | refine chkA ?_ | refine brY ?_ | refine brN ?_
    refine callA hc [1] ?_
    repeat first | refine EffG.mk (obA ?_) | refine obA ?_ | refine chkA ?_ | refine brY ?_ | refine brN ?_
    refine retA [0, 1, 2, 3, 4]
/-- a new device's first file -/
theorem dload_ac (most N o : Nat) (S : List (BitVec 8)) (c : Option Nat) (hS : o + N ≤ S.length) (hN : N ≤ most) (hm : most ≤ 16777216) :
    AC Tryd.prog 33 [.ptr 0 [], .slice 1 [] o N c] 2
      [(0, some ⟨tDv, .node [.i64 most, .nilslice, .nilslice, .nilslice, .i64 0, .bool false, .nilptr], true⟩), (1, some ⟨.row .cell, .u8s S, false⟩)]
      ⟨.tup [], [(0, some (.node [.i64 most, .slice 2 [] 0 N none, .slice 3 [] 0 N none, .nilslice, .i64 0, .bool false, .nilptr]))], [(.row .cell, .u8s ((S.drop o).take N)), (.row .cell, .u8s ((S.drop o).take N))]⟩ := by
  have hc := clone_ac S o N c (by omega) (by omega)
  refine acA tab mix Tryd.func33 {} ?_
  repeat first | refine EffG.mk (obA ?_) | refine obA ?_ | refine chkA ?_ | refine brY ?_ | refine brN ?_
  refine callA hc [1] ?_
  repeat first | refine EffG.mk (obA ?_) | refine obA ?_ | refine chkA ?_ | refine brY ?_ | refine brN ?_
  refine callA hc [1] ?_
  repeat first | refine EffG.mk (obA ?_) | refine obA ?_ | refine chkA ?_ | refine brY ?_ | refine brN ?_
  refine retA [0, 1, 2, 3]
/-- another file -/
theorem dload2_ac (most N o N1 N2 st : Nat) (cap cap2 : Option Nat) (ls : List Lo) (S : List (BitVec 8)) (c : Option Nat) (hS : o + N ≤ S.length) (hN : N ≤ most) (hm : most ≤ 16777216) :
    AC Tryd.prog 33 [.ptr 0 [], .slice 4 [] o N c] 5
      [(0, some ⟨tDv, dvD most N1 cap N2 cap2 (looD 3 ls) st, true⟩), (4, some ⟨.row .cell, .u8s S, false⟩)]
      ⟨.tup [], [(0, some (.node [.i64 most, .slice 5 [] 0 N none, .slice 6 [] 0 N none, .nilslice, .i64 st, .bool false, .nilptr]))], [(.row .cell, .u8s ((S.drop o).take N)), (.row .cell, .u8s ((S.drop o).take N))]⟩ := by
  have hc := clone_ac S o N c (by omega) (by omega)
  refine acA tab mix Tryd.func33 {} ?_
  cases ls
  · repeat first | refine EffG.mk (obA ?_) | refine obA ?_ | refine chkA ?_ | refine brY ?_ | refine brN ?_
    refine callA hc [4] ?_
    repeat first | refine EffG.mk (obA ?_) | refine obA ?_ | refine chkA ?_ | refine brY ?_ | refine brN ?_
    refine callA hc [4] ?_
    repeat first | refine EffG.mk (obA ?_) | refine obA ?_ | refine chkA ?_ | refine brY ?_ | refine brN ?_
    refine retA [0, 1, 2, 3, 4, 5, 6]
  · repeat first | refine EffG.mk (obA ?_) | refine obA ?_ | refine chkA ?_ | refine brY ?_ | refine brN ?_
    refine callA hc [4] ?_
    repeat first | refine EffG.mk (obA ?_) | refine obA ?_ | refine chkA ?_ | refine brY ?_ | refine brN ?_
    refine callA hc [4] ?_
    repeat first | refine EffG.mk (obA ?_) | refine obA ?_ | refine chkA ?_ | refine brY ?_ | refine brN ?_
    refine retA [0, 1, 2, 3, 4, 5, 6]
end Go.Proofs.YtodkhgofmgaafaaDoor.Av

namespace Go.Proofs.YtodkhgofmgaafaaDoor.Av
open Go
set_option linter.all false
set_option maxRecDepth 3000

/-! the document's sums with a key -/
def hbI (bs : List (BitVec 8)) (o k : Nat) (x : BitVec 8) : Nat → List (BitVec 8)
  | 0 => List.replicate 64 0
  | i + 1 => if i < k then ((hbI bs o k x i).set i x).set i (bs.getD (o + i) 0 ^^^ x) else (hbI bs o k x i).set i x
theorem hbI_length (bs : List (BitVec 8)) (o k : Nat) (x : BitVec 8) : ∀ i, (hbI bs o k x i).length = 64
  | 0 => rfl
  | i + 1 => by
    rw [hbI]
    split
    · rw [List.length_set, List.length_set, hbI_length bs o k x i]
    · rw [List.length_set, hbI_length bs o k x i]
theorem hbI_at (bs : List (BitVec 8)) (o k : Nat) (x : BitVec 8) : ∀ n, n ≤ 64 → ∀ i, i < n → (hbI bs o k x n).getD i 0 = (if i < k then bs.getD (o + i) 0 else 0) ^^^ x
  | 0, _, i, hi => absurd hi (Nat.not_lt_zero i)
  | n + 1, hn, i, hi => by
    have hl := hbI_length bs o k x n
    rw [hbI]
    by_cases hk : n < k
    · rw [if_pos hk, List.set_set, getD_set (by omega)]
      by_cases h : i = n
      · subst h; rw [if_pos rfl, if_pos hk]
      · rw [if_neg h, hbI_at bs o k x n (by omega) i (by omega)]
    · rw [if_neg hk, getD_set (by omega)]
      by_cases h : i = n
      · subst h; rw [if_pos rfl, if_neg hk]; exact BitVec.zero_xor.symm
      · rw [if_neg h, hbI_at bs o k x n (by omega) i (by omega)]
theorem xsI_at (base key : List (BitVec 8)) (c : BitVec 8) : ∀ n, n ≤ base.length → ∀ i, i < n → (xsI base key c n).getD i 0 = key.getD i 0 ^^^ c
  | 0, _, i, hi => absurd hi (Nat.not_lt_zero i)
  | n + 1, hn, i, hi => by
    rw [xsI, getD_set (by rw [xsI_length]; omega)]
    by_cases h : i = n
    · rw [if_pos h, h]
    · rw [if_neg h, xsI_at base key c n (by omega) i (by omega)]
theorem keyP_at (bs : List (BitVec 8)) (o k : Nat) (h : o + k ≤ bs.length) (i : Nat) : (keyP ((bs.drop o).take k)).getD i 0 = if i < k then bs.getD (o + i) 0 else 0 := by
  have hl : ((bs.drop o).take k).length = k := by rw [List.length_take, List.length_drop]; omega
  unfold keyP
  by_cases hi : i < k
  · rw [if_pos hi, getD_append_left (by omega), getD_take hi, getD_drop]
  · rw [if_neg hi]
    simp only [List.getD_eq_getElem?_getD]
    rw [List.getElem?_append_right (by omega), List.getElem?_replicate]
    split <;> rfl
theorem hb_ip (bs : List (BitVec 8)) (o k : Nat) (h : o + k ≤ bs.length) (hk : k ≤ 64) : hbI bs o k 0x36 64 = ipF ((bs.drop o).take k) := by
  have hl : ((bs.drop o).take k).length = k := by rw [List.length_take, List.length_drop]; omega
  have hp := keyP_length (key := (bs.drop o).take k) (by omega)
  have h1 := ipF_length (key := (bs.drop o).take k) (by omega)
  have h2 := hbI_length bs o k 0x36 64
  refine eq_getD (by rw [h1, h2]) fun i hi => ?_
  rw [hbI_at bs o k _ 64 (Nat.le_refl _) i (by omega), ipF, xsI_at _ _ _ 64 (by omega) i (by omega), keyP_at bs o k h]
theorem hb_op (bs : List (BitVec 8)) (o k : Nat) (h : o + k ≤ bs.length) : hbI bs o k 0x5c 64 = opF ((bs.drop o).take k) := by
  have h1 := opF_length ((bs.drop o).take k)
  have h2 := hbI_length bs o k 0x5c 64
  refine eq_getD (by rw [h1, h2]) fun i hi => ?_
  rw [hbI_at bs o k _ 64 (Nat.le_refl _) i (by omega), opF, xsI_at _ _ _ 64 (by rw [List.length_replicate]; omega) i (by omega), keyP_at bs o k h]

theorem hblock_ac (bs : List (BitVec 8)) (o k : Nat) (cap : Option Nat) (x : BitVec 8) (h : o + k ≤ bs.length) (hk : k ≤ 64) :
    AC Tryd.prog 151 [.slice 0 [] o k cap, .u8 x] 1 [(0, some ⟨.row .cell, .u8s bs, false⟩)] ⟨.slice 1 [] 0 64 none, [], [(.row .cell, .u8s (hbI bs o k x 64))]⟩ := by
  refine acA tab mix Tryd.func151 {} ?_
  repeat first | refine EffG.mk (obA ?_) | refine obA ?_ | refine chkA ?_ | refine brY ?_ | refine brN ?_
  refine loopG Nat (fun i => [(0, .slice 0 [] o k cap), (1, .u8 x), (6, .slice 1 [] 0 64 none), (7, .i64 i)]) (fun i => [(0, some ⟨.row .cell, .u8s bs, false⟩), (1, some ⟨.row .cell, .u8s (hbI bs o k x i), true⟩)]) 2 (fun i => i ≤ 64) (fun i => 64 - i) 0 [0, 1] (Nat.zero_le _) viewA ?_
  intro i hi
  have hl := hbI_length bs o k x i
  repeat first | refine EffG.mk (obA ?_) | refine obA ?_ | refine chkA ?_
  refine Br.split (fun h => ?_) (fun h => ?_)
  · have hi : i < 64 := by have := of_decide_eq_true h; omega
    repeat first | refine EffG.mk (obA ?_) | refine obA ?_ | refine chkA ?_
    refine Br.split (fun h => ?_) (fun h => ?_)
    · have hik : i < k := by have := of_decide_eq_true h; omega
      have e : hbI bs o k x (i + 1) = ((hbI bs o k x i).set i x).set i (bs.getD (o + i) 0 ^^^ x) := by rw [hbI, if_pos hik]
      repeat first | refine EffG.mk (obA ?_) | refine obA ?_ | refine chkA ?_
      refine nextA (i + 1) [0, 1] (viewA (h3 := ?_))
      rw [e]
      exact ⟨⟨_, rfl, rfl, rfl, id⟩, ⟨_, rfl, rfl, by rw [Nat.zero_add]; rfl, id⟩, trivial⟩
    · have hik : ¬ i < k := by have := of_decide_eq_false h; omega
      have e : hbI bs o k x (i + 1) = (hbI bs o k x i).set i x := by rw [hbI, if_neg hik]
      repeat first | refine EffG.mk (obA ?_) | refine obA ?_ | refine chkA ?_
      refine nextA (i + 1) [0, 1] (viewA (h3 := ?_))
      rw [e]
      exact ⟨⟨_, rfl, rfl, rfl, id⟩, ⟨_, rfl, rfl, by rw [Nat.zero_add]; rfl, id⟩, trivial⟩
  · obtain rfl : i = 64 := by have := of_decide_eq_false h; omega
    repeat first | refine EffG.mk (obA ?_) | refine obA ?_ | refine chkA ?_
    refine retA [0, 1]

theorem rhof_ac (ks bs : List (BitVec 8)) (p k q l : Nat) (c d : Option Nat) (ha : p + k ≤ ks.length) (hb : q + l ≤ bs.length) (hk : k ≤ 64) (hl : l ≤ 30000000000000) :
    AC Tryd.prog 126 [.slice 0 [] p k c, .slice 1 [] q l d] 2 [(0, some ⟨.row .cell, .u8s ks, false⟩), (1, some ⟨.row .cell, .u8s bs, false⟩), gK] ⟨.u8s (hmF ((ks.drop p).take k) ((bs.drop q).take l)), [], []⟩ := by
  have hbl : ((bs.drop q).take l).length = l := by rw [List.length_take, List.length_drop]; omega
  have hkl : ((ks.drop p).take k).length = k := by rw [List.length_take, List.length_drop]; omega
  have hi := hblock_ac ks p k c 0x36 ha hk
  have ho := hblock_ac ks p k c 0x5c ha hk
  rw [hb_ip ks p k ha hk] at hi
  rw [hb_op ks p k ha] at ho
  have e : hmF ((ks.drop p).take k) ((bs.drop q).take l) = shaF (opF ((ks.drop p).take k) ++ shaF (ipF ((ks.drop p).take k) ++ (bs.drop q).take l)) := rfl
  have hO := opF_length ((ks.drop p).take k)
  have hN := ipF_length (key := (ks.drop p).take k) (by omega)
  generalize hmF ((ks.drop p).take k) ((bs.drop q).take l) = y at e ⊢
  generalize opF ((ks.drop p).take k) = O at ho e hO
  generalize ipF ((ks.drop p).take k) = N at hi e hN
  have hs1 := rof_ac (List.take 64 N ++ (bs.drop q).take l) 0 (64 + l) none (by rw [List.length_append, hbl, List.take_of_length_le (by omega), hN]; omega) (by omega)
  rw [List.drop_zero, List.take_of_length_le (l := List.take 64 N ++ _) (by rw [List.length_append, hbl, List.length_take]; omega)] at hs1
  have hNt : List.take 64 N = N := List.take_of_length_le (by omega)
  have hs1l := shaF_length (List.take 64 N ++ (bs.drop q).take l)
  rw [hNt] at hs1 hs1l
  generalize shaF (N ++ (bs.drop q).take l) = z at hs1 hs1l e
  have hs2 := rof_ac (O ++ z) 0 (64 + 32) none (by rw [List.length_append]; omega) (by decide)
  rw [List.drop_zero, List.take_of_length_le (l := O ++ z) (by rw [List.length_append]; omega), ← e] at hs2
  have hy : y.length = 32 := by rw [e]; exact shaF_length _
  refine acA tab mix Tryd.func126 {} ?_
  repeat first | refine EffG.mk (obA ?_) | refine obA ?_ | refine chkA ?_
  refine callA hi [0] ?_
  repeat first | refine EffG.mk (obA ?_) | refine obA ?_ | refine chkA ?_
  refine ⟨0, ?_⟩
  repeat first | refine EffG.mk (obA ?_) | refine obA ?_ | refine chkA ?_
  refine callA hs1 [4] ?_ (hm := ?_)
  rotate_left
  · exact ⟨⟨_, rfl, rfl, congrArg (fun x => D.u8s (x ++ (bs.drop q).take l)) hNt, fun _ => rfl⟩, ⟨_, rfl, rfl, rfl, id⟩, trivial⟩
  repeat first | refine EffG.mk (obA ?_) | refine obA ?_ | refine chkA ?_
  refine callA ho [0] ?_
  repeat first | refine EffG.mk (obA ?_) | refine obA ?_ | refine chkA ?_
  refine ⟨0, ?_⟩
  repeat first | refine EffG.mk (obA ?_) | refine obA ?_ | refine chkA ?_
  refine callA hs2 [7] ?_ (hm := ?_)
  rotate_left
  · exact ⟨⟨_, rfl, rfl, congrArg (fun x => D.u8s x) (show List.take 64 O ++ List.take 32 z = O ++ z by rw [List.take_of_length_le (by omega), List.take_of_length_le (by omega)]), fun _ => rfl⟩, ⟨_, rfl, rfl, rfl, id⟩, trivial⟩
  repeat first | refine EffG.mk (obA ?_) | refine obA ?_ | refine chkA ?_
  refine retA [0, 1]

theorem rlabel_ac (key l : List (BitVec 8)) (hk : key.length = 32) (hl : l.length ≤ 100) : AC Tryd.prog 125 [.u8s key, .str l] 0 [gK] ⟨.u8s (labF key l), [], []⟩ := by
  have hol : (oursF ++ l).length = 10 + l.length := by rw [List.length_append]; rfl
  have ho := rhof_ac key (oursF ++ l) 0 32 0 (oursF ++ l).length (some 32) none (by omega) (by omega) (by decide) (by omega)
  have e : labF key l = hmF key (oursF ++ l) := rfl
  rw [List.drop_zero, List.drop_zero, List.take_of_length_le (by omega), List.take_of_length_le (Nat.le_refl _), ← e] at ho
  have hy := labF_length key l
  generalize labF key l = y at ho hy ⊢
  refine acA tab mix Tryd.func125 {} ?_
  repeat first | refine EffG.mk (obA ?_) | refine obA ?_ | refine chkA ?_
  refine callA (ho.arr 0 32) [0, 2] ?_
  repeat first | refine EffG.mk (obA ?_) | refine obA ?_ | refine chkA ?_
  refine retA []
end Go.Proofs.YtodkhgofmgaafaaDoor.Av

namespace Go.Proofs.YtodkhgofmgaafaaDoor.Av
open Go
set_option linter.all false
set_option maxRecDepth 3000

/-! the document's sums with any key -/
theorem hblock_nil_ac (x : BitVec 8) :
    AC Tryd.prog 151 [.nilslice, .u8 x] 1 [(0, some ⟨.row .cell, .u8s [], false⟩), gK] ⟨.slice 1 [] 0 64 none, [], [(.row .cell, .u8s (hbI [] 0 0 x 64))]⟩ := by
  refine acA tab mix Tryd.func151 {} ?_
  repeat first | refine EffG.mk (obA ?_) | refine obA ?_ | refine chkA ?_ | refine brY ?_ | refine brN ?_
  refine loopG Nat (fun i => [(0, .nilslice), (1, .u8 x), (6, .slice 1 [] 0 64 none), (7, .i64 i)]) (fun i => [(0, some ⟨.row .cell, .u8s [], false⟩), (1, some ⟨.row .cell, .u8s (hbI [] 0 0 x i), true⟩), gK]) 2 (fun i => i ≤ 64) (fun i => 64 - i) 0 [0, 1] (Nat.zero_le _) viewA ?_
  intro i hi
  have hl := hbI_length [] 0 0 x i
  repeat first | refine EffG.mk (obA ?_) | refine obA ?_ | refine chkA ?_
  refine Br.split (fun h => ?_) (fun h => ?_)
  · have hi : i < 64 := by have := of_decide_eq_true h; omega
    have e : hbI [] 0 0 x (i + 1) = (hbI [] 0 0 x i).set i x := by rw [hbI, if_neg (by omega)]
    repeat first | refine EffG.mk (obA ?_) | refine obA ?_ | refine chkA ?_ | refine brY ?_ | refine brN ?_
    refine nextA (i + 1) [0, 1] (viewA (h3 := ?_))
    rw [e]
    exact ⟨⟨_, rfl, rfl, rfl, id⟩, ⟨_, rfl, rfl, by rw [Nat.zero_add]; rfl, id⟩, ⟨_, rfl, rfl, rfl, id⟩, trivial⟩
  · obtain rfl : i = 64 := by have := of_decide_eq_false h; omega
    repeat first | refine EffG.mk (obA ?_) | refine obA ?_ | refine chkA ?_
    refine retA [0, 1]
theorem hblock_long_ac (bs : List (BitVec 8)) (n : Nat) (cap : Option Nat) (x : BitVec 8) (hn : bs.length = n) (h64 : 64 < n) (hk : n ≤ 1000000) :
    AC Tryd.prog 151 [.slice 0 [] 0 n cap, .u8 x] 1 [(0, some ⟨.row .cell, .u8s bs, false⟩), gK] ⟨.slice 1 [] 0 64 none, [], [(.row .cell, .u8s (hbI (shaF bs) 0 32 x 64))]⟩ := by
  have hs := rof_ac bs 0 n cap (by omega) (by omega)
  rw [List.drop_zero, List.take_of_length_le (by omega)] at hs
  have hsl := shaF_length bs
  generalize shaF bs = S at hs hsl ⊢
  refine acA tab mix Tryd.func151 {} ?_
  repeat first | refine EffG.mk (obA ?_) | refine obA ?_ | refine chkA ?_ | refine brY ?_ | refine brN ?_
  refine callA hs [0] ?_
  repeat first | refine EffG.mk (obA ?_) | refine obA ?_ | refine chkA ?_ | refine brY ?_ | refine brN ?_
  refine loopG Nat (fun i => [(0, .slice 1 [] 0 32 (some 32)), (1, .u8 x), (6, .slice 2 [] 0 64 none), (7, .i64 i)]) (fun i => [(0, some ⟨.row .cell, .u8s bs, false⟩), (1, some ⟨t32, .u8s S, true⟩), (2, some ⟨.row .cell, .u8s (hbI S 0 32 x i), true⟩), gK]) 3 (fun i => i ≤ 64) (fun i => 64 - i) 0 [0, 1, 2] (Nat.zero_le _) viewA ?_
  intro i hi
  have hl := hbI_length S 0 32 x i
  repeat first | refine EffG.mk (obA ?_) | refine obA ?_ | refine chkA ?_
  refine Br.split (fun h => ?_) (fun h => ?_)
  · have hi : i < 64 := by have := of_decide_eq_true h; omega
    repeat first | refine EffG.mk (obA ?_) | refine obA ?_ | refine chkA ?_
    refine Br.split (fun h => ?_) (fun h => ?_)
    · have hik : i < 32 := by have := of_decide_eq_true h; omega
      have e : hbI S 0 32 x (i + 1) = ((hbI S 0 32 x i).set i x).set i (S.getD i 0 ^^^ x) := by rw [hbI, if_pos hik, Nat.zero_add]
      repeat first | refine EffG.mk (obA ?_) | refine obA ?_ | refine chkA ?_
      refine nextA (i + 1) [0, 1, 2] (viewA (h3 := ?_))
      rw [e]
      exact ⟨⟨_, rfl, rfl, rfl, id⟩, ⟨_, rfl, rfl, rfl, id⟩, ⟨_, rfl, rfl, by rw [Nat.zero_add]; rfl, id⟩, ⟨_, rfl, rfl, rfl, id⟩, trivial⟩
    · have hik : ¬ i < 32 := by have := of_decide_eq_false h; omega
      have e : hbI S 0 32 x (i + 1) = (hbI S 0 32 x i).set i x := by rw [hbI, if_neg hik]
      repeat first | refine EffG.mk (obA ?_) | refine obA ?_ | refine chkA ?_
      refine nextA (i + 1) [0, 1, 2] (viewA (h3 := ?_))
      rw [e]
      exact ⟨⟨_, rfl, rfl, rfl, id⟩, ⟨_, rfl, rfl, rfl, id⟩, ⟨_, rfl, rfl, by rw [Nat.zero_add]; rfl, id⟩, ⟨_, rfl, rfl, rfl, id⟩, trivial⟩
  · obtain rfl : i = 64 := by have := of_decide_eq_false h; omega
    repeat first | refine EffG.mk (obA ?_) | refine obA ?_ | refine chkA ?_
    refine retA [0, 2]
theorem hblockk_ac (bs : List (BitVec 8)) (o k : Nat) (cap : Option Nat) (x : BitVec 8) (h : o + k ≤ bs.length) (hk : k ≤ 64) :
    AC Tryd.prog 151 [.slice 0 [] o k cap, .u8 x] 1 [(0, some ⟨.row .cell, .u8s bs, false⟩), gK] ⟨.slice 1 [] 0 64 none, [], [(.row .cell, .u8s (hbI bs o k x 64))]⟩ := by
  refine acA tab mix Tryd.func151 {} ?_
  repeat first | refine EffG.mk (obA ?_) | refine obA ?_ | refine chkA ?_ | refine brY ?_ | refine brN ?_
  refine loopG Nat (fun i => [(0, .slice 0 [] o k cap), (1, .u8 x), (6, .slice 1 [] 0 64 none), (7, .i64 i)]) (fun i => [(0, some ⟨.row .cell, .u8s bs, false⟩), (1, some ⟨.row .cell, .u8s (hbI bs o k x i), true⟩), gK]) 2 (fun i => i ≤ 64) (fun i => 64 - i) 0 [0, 1] (Nat.zero_le _) viewA ?_
  intro i hi
  have hl := hbI_length bs o k x i
  repeat first | refine EffG.mk (obA ?_) | refine obA ?_ | refine chkA ?_
  refine Br.split (fun h => ?_) (fun h => ?_)
  · have hi : i < 64 := by have := of_decide_eq_true h; omega
    repeat first | refine EffG.mk (obA ?_) | refine obA ?_ | refine chkA ?_
    refine Br.split (fun h => ?_) (fun h => ?_)
    · have hik : i < k := by have := of_decide_eq_true h; omega
      have e : hbI bs o k x (i + 1) = ((hbI bs o k x i).set i x).set i (bs.getD (o + i) 0 ^^^ x) := by rw [hbI, if_pos hik]
      repeat first | refine EffG.mk (obA ?_) | refine obA ?_ | refine chkA ?_
      refine nextA (i + 1) [0, 1] (viewA (h3 := ?_))
      rw [e]
      exact ⟨⟨_, rfl, rfl, rfl, id⟩, ⟨_, rfl, rfl, by rw [Nat.zero_add]; rfl, id⟩, ⟨_, rfl, rfl, rfl, id⟩, trivial⟩
    · have hik : ¬ i < k := by have := of_decide_eq_false h; omega
      have e : hbI bs o k x (i + 1) = (hbI bs o k x i).set i x := by rw [hbI, if_neg hik]
      repeat first | refine EffG.mk (obA ?_) | refine obA ?_ | refine chkA ?_
      refine nextA (i + 1) [0, 1] (viewA (h3 := ?_))
      rw [e]
      exact ⟨⟨_, rfl, rfl, rfl, id⟩, ⟨_, rfl, rfl, by rw [Nat.zero_add]; rfl, id⟩, ⟨_, rfl, rfl, rfl, id⟩, trivial⟩
  · obtain rfl : i = 64 := by have := of_decide_eq_false h; omega
    repeat first | refine EffG.mk (obA ?_) | refine obA ?_ | refine chkA ?_
    refine retA [0, 1]

theorem hblock_any_ac (bs : List (BitVec 8)) (n : Nat) (c : Option Nat) (x : BitVec 8) (hn : bs.length = n) (hc : c = none → n = 0) (hk : n ≤ 1000000) :
    AC Tryd.prog 151 [slD 0 n c, .u8 x] 1 [(0, some ⟨.row .cell, .u8s bs, false⟩), gK] ⟨.slice 1 [] 0 64 none, [], [(.row .cell, .u8s (hbI (keyN bs) 0 (keyN bs).length x 64))]⟩ := by
  cases c with
  | none =>
    obtain rfl := hc rfl
    obtain rfl := List.eq_nil_of_length_eq_zero hn
    exact hblock_nil_ac x
  | some c =>
    by_cases h : 64 < n
    · rw [keyN, if_pos (by omega), shaF_length]
      exact hblock_long_ac bs n (some c) x hn h hk
    · rw [keyN, if_neg (by omega), hn]
      have hb := hblockk_ac bs 0 n (some c) x (by omega) (by omega)
      exact hb

theorem hb_ip0 (bs : List (BitVec 8)) (h : bs.length ≤ 64) : hbI bs 0 bs.length 0x36 64 = ipF bs := by
  have := hb_ip bs 0 bs.length (by omega) h
  rwa [List.drop_zero, List.take_of_length_le (Nat.le_refl _)] at this
theorem hb_op0 (bs : List (BitVec 8)) : hbI bs 0 bs.length 0x5c 64 = opF bs := by
  have := hb_op bs 0 bs.length (by omega)
  rwa [List.drop_zero, List.take_of_length_le (Nat.le_refl _)] at this

theorem rhofS_ac (ks bs : List (BitVec 8)) (k q l : Nat) (c d : Option Nat) (ha : ks.length = k) (hc : c = none → k = 0) (hb : q + l ≤ bs.length) (hk : k ≤ 1000000) (hl : l ≤ 30000000000000) :
    AC Tryd.prog 126 [slD 0 k c, .slice 1 [] q l d] 2 [(0, some ⟨.row .cell, .u8s ks, false⟩), (1, some ⟨.row .cell, .u8s bs, false⟩), gK] ⟨.u8s (hmF (keyN ks) ((bs.drop q).take l)), [], []⟩ := by
  have hbl : ((bs.drop q).take l).length = l := by rw [List.length_take, List.length_drop]; omega
  have hkl := keyN_length ks
  have hi := hblock_any_ac ks k c 0x36 ha hc hk
  have ho := hblock_any_ac ks k c 0x5c ha hc hk
  rw [hb_ip0 _ hkl] at hi
  rw [hb_op0] at ho
  have e : hmF (keyN ks) ((bs.drop q).take l) = shaF (opF (keyN ks) ++ shaF (ipF (keyN ks) ++ (bs.drop q).take l)) := rfl
  have hO := opF_length (keyN ks)
  have hN := ipF_length (key := keyN ks) (by omega)
  generalize hmF (keyN ks) ((bs.drop q).take l) = y at e ⊢
  generalize opF (keyN ks) = O at ho e hO
  generalize ipF (keyN ks) = N at hi e hN
  have hs1 := rof_ac (List.take 64 N ++ (bs.drop q).take l) 0 (64 + l) none (by rw [List.length_append, hbl, List.take_of_length_le (by omega), hN]; omega) (by omega)
  rw [List.drop_zero, List.take_of_length_le (l := List.take 64 N ++ _) (by rw [List.length_append, hbl, List.length_take]; omega)] at hs1
  have hNt : List.take 64 N = N := List.take_of_length_le (by omega)
  have hs1l := shaF_length (List.take 64 N ++ (bs.drop q).take l)
  rw [hNt] at hs1 hs1l
  generalize shaF (N ++ (bs.drop q).take l) = z at hs1 hs1l e
  have hs2 := rof_ac (O ++ z) 0 (64 + 32) none (by rw [List.length_append]; omega) (by decide)
  rw [List.drop_zero, List.take_of_length_le (l := O ++ z) (by rw [List.length_append]; omega), ← e] at hs2
  have hy : y.length = 32 := by rw [e]; exact shaF_length _
  refine acA tab mix Tryd.func126 {} ?_
  repeat first | refine EffG.mk (obA ?_) | refine obA ?_ | refine chkA ?_
  refine callA hi [0] ?_
  repeat first | refine EffG.mk (obA ?_) | refine obA ?_ | refine chkA ?_
  refine ⟨0, ?_⟩
  repeat first | refine EffG.mk (obA ?_) | refine obA ?_ | refine chkA ?_
  refine callA hs1 [4] ?_ (hm := ?_)
  rotate_left
  · exact ⟨⟨_, rfl, rfl, congrArg (fun x => D.u8s (x ++ (bs.drop q).take l)) hNt, fun _ => rfl⟩, ⟨_, rfl, rfl, rfl, id⟩, trivial⟩
  repeat first | refine EffG.mk (obA ?_) | refine obA ?_ | refine chkA ?_
  refine callA ho [0] ?_
  repeat first | refine EffG.mk (obA ?_) | refine obA ?_ | refine chkA ?_
  refine ⟨0, ?_⟩
  repeat first | refine EffG.mk (obA ?_) | refine obA ?_ | refine chkA ?_
  refine callA hs2 [7] ?_ (hm := ?_)
  rotate_left
  · exact ⟨⟨_, rfl, rfl, congrArg (fun x => D.u8s x) (show List.take 64 O ++ List.take 32 z = O ++ z by rw [List.take_of_length_le (by omega), List.take_of_length_le (by omega)]), fun _ => rfl⟩, ⟨_, rfl, rfl, rfl, id⟩, trivial⟩
  repeat first | refine EffG.mk (obA ?_) | refine obA ?_ | refine chkA ?_
  refine retA [0, 1]
end Go.Proofs.YtodkhgofmgaafaaDoor.Av

namespace Go.Proofs.YtodkhgofmgaafaaDoor.Av
open Go
set_option linter.all false
set_option maxRecDepth 3000

/-! the document's keys of passphrases -/
theorem rkb_ac (ks ss : List (BitVec 8)) (k n : Nat) (x : Option Nat) (ha : ks.length = k) (hx : x = none → k = 0) (hk : k ≤ 512) (hs : ss.length = 16) (h1 : 1 ≤ n) (h2 : n ≤ 4096) :
    AC Tryd.prog 129 [slD 0 k x, .slice 1 [] 0 16 (some 16), .i64 n, .i64 1] 2 [(0, some ⟨.row .cell, .u8s ks, false⟩), (1, some ⟨.row .cell, .u8s ss, false⟩), gK] ⟨.u8s (dkF ks ss n), [], []⟩ := by
  have h0 := rhofS_ac ks (ss ++ [0, 0, 0, 1]) k 0 20 x none ha hx (by rw [List.length_append, hs]; decide) (by omega) (by decide)
  rw [List.drop_zero, List.take_of_length_le (by rw [List.length_append, hs]; decide)] at h0
  have hp := rput4_ac 1
  have hn4 : nbF 1 4 = [0, 0, 0, 1] := by decide
  rw [hn4] at hp
  have h9 : ∀ i, AC Tryd.prog 126 [slD 0 k x, .slice 1 [] 0 32 (some 32)] 2 [(1, some ⟨t32, .u8s (dkL (keyN ks) (ss ++ [0, 0, 0, 1]) i), false⟩), (0, some ⟨.row .cell, .u8s ks, false⟩), gK]
      ⟨.u8s (dkL (keyN ks) (ss ++ [0, 0, 0, 1]) (i + 1)), [], []⟩ := fun i => by
    have hl := dkL_length (keyN ks) (ss ++ [0, 0, 0, 1]) i
    have := rhofS_ac ks (dkL (keyN ks) (ss ++ [0, 0, 0, 1]) i) k 0 32 x (some 32) ha hx (by omega) (by omega) (by decide)
    rw [List.drop_zero, List.take_of_length_le (by omega)] at this
    have := this.arr 1 32
    cases x <;> exact this
  have hll := dkL_length (keyN ks) (ss ++ [0, 0, 0, 1])
  have hal := dkA_length (keyN ks) (ss ++ [0, 0, 0, 1])
  have ha0 : dkA (keyN ks) (ss ++ [0, 0, 0, 1]) 0 = dkL (keyN ks) (ss ++ [0, 0, 0, 1]) 0 := rfl
  have ha1 : ∀ i, dkA (keyN ks) (ss ++ [0, 0, 0, 1]) (i + 1) = xoI (dkA (keyN ks) (ss ++ [0, 0, 0, 1]) i) (dkL (keyN ks) (ss ++ [0, 0, 0, 1]) (i + 1)) 32 := fun _ => rfl
  have hf : dkF ks ss n = dkA (keyN ks) (ss ++ [0, 0, 0, 1]) (n - 1) := rfl
  rw [show hmF (keyN ks) (ss ++ [0, 0, 0, 1]) = dkL (keyN ks) (ss ++ [0, 0, 0, 1]) 0 from rfl] at h0
  rw [hf]
  generalize dkL (keyN ks) (ss ++ [0, 0, 0, 1]) = L at *
  generalize dkA (keyN ks) (ss ++ [0, 0, 0, 1]) = A at *
  have hl0 := hll 0
  refine acA tab mix Tryd.func129 {} ?_
  repeat first | refine EffG.mk (obA ?_) | refine obA ?_ | refine chkA ?_
  refine ⟨0, ?_⟩
  repeat first | refine EffG.mk (obA ?_) | refine obA ?_ | refine chkA ?_
  refine callA hp [] ?_
  repeat first | refine EffG.mk (obA ?_) | refine obA ?_ | refine chkA ?_
  refine ⟨0, ?_⟩
  repeat first | refine EffG.mk (obA ?_) | refine obA ?_ | refine chkA ?_
  have e0 : List.take 16 ss = ss := List.take_of_length_le (by omega)
  refine callA h0 [0, 6] ?_ (hm := ?_)
  rotate_left
  · (repeat' (first | exact trivial | refine And.intro ⟨_, rfl, rfl, ?_, id⟩ ?_ | refine And.intro ⟨_, rfl, rfl, ?_, fun _ => rfl⟩ ?_)) <;> first | rfl | exact congrArg (fun x => D.u8s (x ++ [0, 0, 0, 1])) (show List.take 16 (List.take 16 ss) = ss by rw [e0, e0]) | exact congrArg (fun x => D.u8s (x ++ [0, 0, 0, 1])) e0
  repeat first | refine EffG.mk (obA ?_) | refine obA ?_ | refine chkA ?_
  refine loopG Nat (fun i => [(0, slD 0 k x), (2, .i64 n), (8, .ptr 2 []), (9, .ptr 3 []), (10, .ptr 4 []), (11, .i64 (1 + i : Nat))]) (fun i => [(0, some ⟨.row .cell, .u8s ks, false⟩), (1, some ⟨.row .cell, .u8s ss, false⟩),
    (2, some ⟨t32, .u8s (List.replicate 32 0), true⟩), (3, some ⟨t32, .u8s (L i), true⟩), (4, some ⟨t32, .u8s (A i), true⟩), gK]) 5 (fun i => i ≤ n - 1) (fun i => n - 1 - i) 0 [0, 1, 2, 7, 8] (Nat.zero_le _) (viewA (h3 := ?_)) ?_
  · rw [ha0]
    exact ⟨⟨_, rfl, rfl, rfl, id⟩, ⟨_, rfl, rfl, rfl, id⟩, ⟨_, rfl, rfl, rfl, id⟩, ⟨_, rfl, rfl, rfl, id⟩, ⟨_, rfl, rfl, rfl, id⟩, ⟨_, rfl, rfl, rfl, id⟩, trivial⟩
  intro i hi
  have hli := hll i
  have hai := hal i
  repeat first | refine EffG.mk (obA ?_) | refine obA ?_ | refine chkA ?_
  refine Br.split (fun h => ?_) (fun h => ?_)
  · have hi : i < n - 1 := by have := of_decide_eq_true h; omega
    have hl2 := hll (i + 1)
    repeat first | refine EffG.mk (obA ?_) | refine obA ?_ | refine chkA ?_
    refine callA (h9 i) [0, 3] ?_
    repeat first | refine EffG.mk (obA ?_) | refine obA ?_ | refine chkA ?_
    refine loopG Nat (fun j => [(0, slD 0 k x), (2, .i64 n), (8, .ptr 2 []), (9, .ptr 3 []), (10, .ptr 4 []), (11, .i64 (1 + i : Nat)), (12, .i64 j)]) (fun j => [(0, some ⟨.row .cell, .u8s ks, false⟩), (1, some ⟨.row .cell, .u8s ss, false⟩),
      (2, some ⟨t32, .u8s (List.replicate 32 0), true⟩), (3, some ⟨t32, .u8s (L (i + 1)), true⟩), (4, some ⟨t32, .u8s (xoI (A i) (L (i + 1)) j), true⟩), gK]) 5 (fun j => j ≤ 32) (fun j => 32 - j) 0 [0, 1, 2, 3, 4] (Nat.zero_le _) viewA ?_
    intro j hj
    have hxj := xoI_length (A i) (L (i + 1)) j
    rw [hai] at hxj
    repeat first | refine EffG.mk (obA ?_) | refine obA ?_ | refine chkA ?_
    refine Br.split (fun h => ?_) (fun h => ?_)
    · have hj : j < 32 := by have := of_decide_eq_true h; omega
      repeat first | refine EffG.mk (obA ?_) | refine obA ?_ | refine chkA ?_
      refine nextA (j + 1) [0, 1, 2, 3, 4] viewA
    · obtain rfl : j = 32 := by have := of_decide_eq_false h; omega
      rw [← ha1 i]
      repeat first | refine EffG.mk (obA ?_) | refine obA ?_ | refine chkA ?_
      refine nextA (i + 1) [0, 1, 2, 3, 4] viewA
  · obtain rfl : i = n - 1 := by have := of_decide_eq_false h; omega
    repeat first | refine EffG.mk (obA ?_) | refine obA ?_ | refine chkA ?_
    refine retA [0, 1]

theorem rderive_ac (ks ss : List (BitVec 8)) (k n : Nat) (x : Option Nat) (ha : ks.length = k) (hx : x = none → k = 0) (hk : k ≤ 512) (hs : ss.length = 16) (h1 : 1 ≤ n) (h2 : n ≤ 4096) :
    AC Tryd.prog 94 [slD 0 k x, .slice 1 [] 0 16 (some 16), .i64 n, .i64 32] 2 [(0, some ⟨.row .cell, .u8s ks, false⟩), (1, some ⟨.row .cell, .u8s ss, false⟩), gK]
      ⟨.tup [.slice 2 [] 0 32 none, .i64 0], [], [(.row .cell, .u8s (dkF ks ss n))]⟩ := by
  have hb := rkb_ac ks ss k n x ha hx hk hs h1 h2
  have hl := dkF_length ks ss n
  generalize dkF ks ss n = y at hb hl ⊢
  refine acA tab mix Tryd.func94 ⟨[], [7]⟩ ?_
  repeat first | refine EffG.mk (obA ?_) | refine obA ?_ | refine chkA ?_ | refine brY ?_ | refine brN ?_ | refine lenS rfl rfl rfl rfl hx rfl rfl ?_
  refine unrG 2 ?_
  repeat first | refine EffG.mk (obA ?_) | refine obA ?_ | refine chkA ?_ | refine brY ?_ | refine brN ?_
  refine callA hb [0, 1] ?_
  repeat first | refine EffG.mk (obA ?_) | refine obA ?_ | refine chkA ?_
  refine ⟨1, ?_⟩
  repeat first | refine EffG.mk (obA ?_) | refine obA ?_ | refine chkA ?_ | refine brY ?_ | refine brN ?_
  have e : List.take 32 y = y := List.take_of_length_le (by omega)
  refine retA [0, 1, 3] (h3 := ?_)
  (repeat' (first | exact trivial | refine And.intro ⟨_, rfl, rfl, ?_, id⟩ ?_ | refine And.intro ⟨_, rfl, rfl, ?_, fun _ => rfl⟩ ?_)) <;> first | rfl | exact congrArg D.u8s e

/-- a slot's key -/
def cpI (y : List (BitVec 8)) : Nat → List (BitVec 8)
  | 0 => List.replicate 32 0
  | i + 1 => (cpI y i).set i (y.getD i 0)
theorem cpI_length (y : List (BitVec 8)) : ∀ i, (cpI y i).length = 32
  | 0 => rfl
  | i + 1 => by rw [cpI, List.length_set, cpI_length y i]
theorem cpI_at (y : List (BitVec 8)) : ∀ n, n ≤ 32 → ∀ i, i < n → (cpI y n).getD i 0 = y.getD i 0
  | 0, _, i, hi => absurd hi (Nat.not_lt_zero i)
  | n + 1, hn, i, hi => by
    rw [cpI, getD_set (by rw [cpI_length]; omega)]
    by_cases h : i = n
    · rw [if_pos h, h]
    · rw [if_neg h, cpI_at y n (by omega) i (by omega)]
theorem cpI_all (y : List (BitVec 8)) (h : y.length = 32) : cpI y 32 = y :=
  eq_getD (by rw [cpI_length, h]) fun i hi => cpI_at y 32 (Nat.le_refl _) i (by rw [cpI_length] at hi; exact hi)
theorem rkey_ac (ks salt : List (BitVec 8)) (k n : Nat) (x : Option Nat) (ha : ks.length = k) (hx : x = none → k = 0) (hk : k ≤ 512) (hs : salt.length = 16) (h1 : 1 ≤ n) (h2 : n ≤ 4096) :
    AC Tryd.prog 50 [slD 0 k x, .u8s salt, .i64 n] 1 [(0, some ⟨.row .cell, .u8s ks, false⟩), gK] ⟨.u8s (dkF ks salt n), [], []⟩ := by
  have h := rderive_ac ks salt k n x ha hx hk hs h1 h2
  have hl := dkF_length ks salt n
  generalize dkF ks salt n = y at h hl ⊢
  have hy := cpI_all y hl
  have h : AC Tryd.prog 94 [slD 0 k x, .slice 1 [] 0 16 (some 16), .i64 n, .i64 32] 2 [(1, some ⟨.arr 16 .cell, .u8s salt, false⟩), (0, some ⟨.row .cell, .u8s ks, false⟩), gK]
      ⟨.tup [.slice 2 [] 0 32 none, .i64 0], [], [(.row .cell, .u8s y)]⟩ := by
    have := h.arr 1 16
    cases x <;> exact this
  refine acA tab mix Tryd.func50 {} ?_
  repeat first | refine EffG.mk (obA ?_) | refine obA ?_ | refine chkA ?_
  refine callA h [0, 1] ?_
  repeat first | refine EffG.mk (obA ?_) | refine obA ?_ | refine chkA ?_
  refine loopG Nat (fun i => [(6, .ptr 1 []), (7, .slice 2 [] 0 32 none), (9, .ptr 3 []), (10, .i64 i)]) (fun i => [(0, some ⟨.row .cell, .u8s ks, false⟩), (1, some ⟨t32, .u8s (List.replicate 32 0), true⟩), (2, some ⟨.row .cell, .u8s y, true⟩), (3, some ⟨t32, .u8s (cpI y i), true⟩), gK]) 4
    (fun i => i ≤ 32) (fun i => 32 - i) 0 [0, 2, 3, 4] (Nat.zero_le _) viewA ?_
  intro i hi
  have hxi := cpI_length y i
  repeat first | refine EffG.mk (obA ?_) | refine obA ?_ | refine chkA ?_
  refine Br.split (fun h => ?_) (fun h => ?_)
  · have hi : i < 32 := by have := of_decide_eq_true h; omega
    repeat first | refine EffG.mk (obA ?_) | refine obA ?_ | refine chkA ?_
    refine nextA (i + 1) [0, 1, 2, 3] (viewA (h3 := ?_))
    (repeat' (first | exact trivial | refine And.intro ⟨_, rfl, rfl, ?_, id⟩ ?_ | refine And.intro ⟨_, rfl, rfl, ?_, fun _ => rfl⟩ ?_)) <;> first | rfl | (rw [Nat.zero_add]; rfl)
  · obtain rfl : i = 32 := by have := of_decide_eq_false h; omega
    rw [hy]
    repeat first | refine EffG.mk (obA ?_) | refine obA ?_ | refine chkA ?_
    refine retA [0]
end Go.Proofs.YtodkhgofmgaafaaDoor.Av

namespace Go.Proofs.YtodkhgofmgaafaaDoor.Av
open Go
set_option linter.all false
set_option maxRecDepth 3000

/-! the document's answer of layers 1 and 6: small functions -/

theorem with_ac (s k : List (BitVec 8)) (hs : s.length = 16) (hk : k.length = 16) : AC Tryd.prog 153 [.u8s s, .u8s k] 0 [] ⟨.u8s (xorF s k), [], []⟩ := by
  refine ac_of tab mix Tryd.func153 rfl (by kernel_rfl) (by kernel_rfl) (by kernel_rfl) {} ?_
  repeat first | (refine EffG.mk (And.intro ?_ ?_); focus ((repeat' (first | exact trivial | refine And.intro ?_ ?_)) <;> (first | omega | (simp only [hasTy, okP, lenD, D.ren, D.isCell, Option.getD, List.length_set, List.length_take, List.length_drop, List.length_append, List.length_replicate, List.length_map, List.length_cons, List.length_nil, Option.map] <;> omega) | with_reducible assumption | with_reducible rfl | decide); done)) | (refine And.intro ?_ ?_; focus ((repeat' (first | exact trivial | refine And.intro ?_ ?_)) <;> (first | omega | (simp only [hasTy, okP, lenD, D.ren, D.isCell, Option.getD, List.length_set, List.length_take, List.length_drop, List.length_append, List.length_replicate, List.length_map, List.length_cons, List.length_nil, Option.map] <;> omega) | with_reducible assumption | with_reducible rfl | decide); done)) | refine chkG (by kernel_rfl) ?_
  refine loopG Nat (fun n => [(2, .ptr 0 []), (3, .ptr 1 []), (4, .ptr 2 []), (5, .i64 n)]) (fun n => [(0, some ⟨t16, .u8s (xorI s k n), true⟩), (1, some ⟨t16, .u8s k, true⟩), (2, some ⟨t16, .u8s (List.replicate 16 0), true⟩)]) 3
    (fun n => n ≤ 16) (fun n => 16 - n) 0 [0, 1, 2] (Nat.zero_le _) ?_ ?_
  · exact viewG rfl ⟨rfl, rfl, rfl, rfl, trivial⟩ ⟨⟨_, rfl, rfl, rfl, id⟩, ⟨_, rfl, rfl, rfl, id⟩, ⟨_, rfl, rfl, rfl, id⟩, trivial⟩ rfl
  intro n hn
  have hl := xorI_length s k n
  rw [hs] at hl
  repeat first | (refine EffG.mk (And.intro ?_ ?_); focus ((repeat' (first | exact trivial | refine And.intro ?_ ?_)) <;> (first | omega | (simp only [hasTy, okP, lenD, D.ren, D.isCell, Option.getD, List.length_set, List.length_take, List.length_drop, List.length_append, List.length_replicate, List.length_map, List.length_cons, List.length_nil, Option.map] <;> omega) | with_reducible assumption | with_reducible rfl | decide); done)) | (refine And.intro ?_ ?_; focus ((repeat' (first | exact trivial | refine And.intro ?_ ?_)) <;> (first | omega | (simp only [hasTy, okP, lenD, D.ren, D.isCell, Option.getD, List.length_set, List.length_take, List.length_drop, List.length_append, List.length_replicate, List.length_map, List.length_cons, List.length_nil, Option.map] <;> omega) | with_reducible assumption | with_reducible rfl | decide); done)) | refine chkG (by kernel_rfl) ?_
  refine Br.split (fun h => ?_) (fun h => ?_)
  · have hn : n < 16 := by have := of_decide_eq_true h; omega
    repeat first | (refine EffG.mk (And.intro ?_ ?_); focus ((repeat' (first | exact trivial | refine And.intro ?_ ?_)) <;> (first | omega | (simp only [hasTy, okP, lenD, D.ren, D.isCell, Option.getD, List.length_set, List.length_take, List.length_drop, List.length_append, List.length_replicate, List.length_map, List.length_cons, List.length_nil, Option.map] <;> omega) | with_reducible assumption | with_reducible rfl | decide); done)) | (refine And.intro ?_ ?_; focus ((repeat' (first | exact trivial | refine And.intro ?_ ?_)) <;> (first | omega | (simp only [hasTy, okP, lenD, D.ren, D.isCell, Option.getD, List.length_set, List.length_take, List.length_drop, List.length_append, List.length_replicate, List.length_map, List.length_cons, List.length_nil, Option.map] <;> omega) | with_reducible assumption | with_reducible rfl | decide); done)) | refine chkG (by kernel_rfl) ?_
    refine nextG (n + 1) [0, 1, 2] ?_ ?_ ?_
    · omega
    · omega
    · exact viewG rfl ⟨rfl, rfl, rfl, rfl, trivial⟩ ⟨⟨_, rfl, rfl, rfl, id⟩, ⟨_, rfl, rfl, rfl, id⟩, ⟨_, rfl, rfl, rfl, id⟩, trivial⟩ rfl
  · have hn : n = 16 := by have := of_decide_eq_false h; omega
    subst hn
    repeat first | (refine EffG.mk (And.intro ?_ ?_); focus ((repeat' (first | exact trivial | refine And.intro ?_ ?_)) <;> (first | omega | (simp only [hasTy, okP, lenD, D.ren, D.isCell, Option.getD, List.length_set, List.length_take, List.length_drop, List.length_append, List.length_replicate, List.length_map, List.length_cons, List.length_nil, Option.map] <;> omega) | with_reducible assumption | with_reducible rfl | decide); done)) | (refine And.intro ?_ ?_; focus ((repeat' (first | exact trivial | refine And.intro ?_ ?_)) <;> (first | omega | (simp only [hasTy, okP, lenD, D.ren, D.isCell, Option.getD, List.length_set, List.length_take, List.length_drop, List.length_append, List.length_replicate, List.length_map, List.length_cons, List.length_nil, Option.map] <;> omega) | with_reducible assumption | with_reducible rfl | decide); done)) | refine chkG (by kernel_rfl) ?_
    refine retG [] rfl rfl trivial rfl

theorem shift_high (a : BitVec 8) (h : 128 ≤ a.toNat) : shiftF a = (a <<< 1) ^^^ 27 := by
  have : 128 ≤ a.toNat → shiftF a = (a <<< 1) ^^^ 27 := byte_nat (p := fun a => 128 ≤ a.toNat → shiftF a = (a <<< 1) ^^^ 27) (by decide +kernel) a
  exact this h
theorem shift_low (a : BitVec 8) (h : ¬ 128 ≤ a.toNat) : shiftF a = a <<< 1 := by
  have : ¬ 128 ≤ a.toNat → shiftF a = a <<< 1 := byte_nat (p := fun a => ¬ 128 ≤ a.toNat → shiftF a = a <<< 1) (by decide +kernel) a
  exact this h

theorem twice_ac (a : BitVec 8) : AC Tryd.prog 154 [.u8 a] 0 [] ⟨.u8 (shiftF a), [], []⟩ := by
  refine ac_of tab mix Tryd.func154 rfl (by kernel_rfl) (by kernel_rfl) (by kernel_rfl) {} ?_
  repeat first | (refine EffG.mk (And.intro ?_ ?_); focus ((repeat' (first | exact trivial | refine And.intro ?_ ?_)) <;> (first | omega | (simp only [hasTy, okP, lenD, D.ren, D.isCell, Option.getD, List.length_set, List.length_take, List.length_drop, List.length_append, List.length_replicate, List.length_map, List.length_cons, List.length_nil, Option.map] <;> omega) | with_reducible assumption | with_reducible rfl | decide); done)) | (refine And.intro ?_ ?_; focus ((repeat' (first | exact trivial | refine And.intro ?_ ?_)) <;> (first | omega | (simp only [hasTy, okP, lenD, D.ren, D.isCell, Option.getD, List.length_set, List.length_take, List.length_drop, List.length_append, List.length_replicate, List.length_map, List.length_cons, List.length_nil, Option.map] <;> omega) | with_reducible assumption | with_reducible rfl | decide); done)) | refine chkG (by kernel_rfl) ?_
  refine Br.split (fun h => ?_) (fun h => ?_)
  · have h : 128 ≤ a.toNat := by simpa using h
    repeat first | (refine EffG.mk (And.intro ?_ ?_); focus ((repeat' (first | exact trivial | refine And.intro ?_ ?_)) <;> (first | omega | (simp only [hasTy, okP, lenD, D.ren, D.isCell, Option.getD, List.length_set, List.length_take, List.length_drop, List.length_append, List.length_replicate, List.length_map, List.length_cons, List.length_nil, Option.map] <;> omega) | with_reducible assumption | with_reducible rfl | decide); done)) | (refine And.intro ?_ ?_; focus ((repeat' (first | exact trivial | refine And.intro ?_ ?_)) <;> (first | omega | (simp only [hasTy, okP, lenD, D.ren, D.isCell, Option.getD, List.length_set, List.length_take, List.length_drop, List.length_append, List.length_replicate, List.length_map, List.length_cons, List.length_nil, Option.map] <;> omega) | with_reducible assumption | with_reducible rfl | decide); done)) | refine chkG (by kernel_rfl) ?_
    refine retG [] ?_ rfl trivial rfl
    exact congrArg D.u8 (shift_high a h).symm
  · have h : ¬ 128 ≤ a.toNat := by simpa using h
    repeat first | (refine EffG.mk (And.intro ?_ ?_); focus ((repeat' (first | exact trivial | refine And.intro ?_ ?_)) <;> (first | omega | (simp only [hasTy, okP, lenD, D.ren, D.isCell, Option.getD, List.length_set, List.length_take, List.length_drop, List.length_append, List.length_replicate, List.length_map, List.length_cons, List.length_nil, Option.map] <;> omega) | with_reducible assumption | with_reducible rfl | decide); done)) | (refine And.intro ?_ ?_; focus ((repeat' (first | exact trivial | refine And.intro ?_ ?_)) <;> (first | omega | (simp only [hasTy, okP, lenD, D.ren, D.isCell, Option.getD, List.length_set, List.length_take, List.length_drop, List.length_append, List.length_replicate, List.length_map, List.length_cons, List.length_nil, Option.map] <;> omega) | with_reducible assumption | with_reducible rfl | decide); done)) | refine chkG (by kernel_rfl) ?_
    refine retG [] ?_ rfl trivial rfl
    exact congrArg D.u8 (shift_low a h).symm

/-- the code's product of two numbers, as the document multiplies -/
def rm1 (a b : BitVec 8) : Nat → Int
  | 0 => 0
  | n + 1 => if b >>> n &&& 1 = 1 then (BitVec.ofInt 64 (rm1 a b n) ^^^ BitVec.ofInt 64 ((a.toNat : Int) * 2 ^ n)).toInt else rm1 a b n
def rm2 (p : Int) : Nat → Int
  | 0 => p
  | k + 1 => if (BitVec.ofInt 64 (rm2 p k / 2 ^ (14 - k)) &&& BitVec.ofInt 64 1).toInt = 1 then (BitVec.ofInt 64 (rm2 p k) ^^^ BitVec.ofInt 64 (283 * 2 ^ (6 - k))).toInt else rm2 p k
def rmulF (a b : BitVec 8) : BitVec 8 := BitVec.ofInt 8 (rm2 (rm1 a b 8) 7)

theorem cnt64 (n : Nat) (h : n < 100) : (BitVec.ofInt 64 (n : Int)).toNat = n := by
  rw [BitVec.ofInt_natCast, BitVec.toNat_ofNat]; omega
theorem pow_lt (n : Nat) (h : n < 15) : (0 : Int) < 2 ^ n ∧ (2 : Int) ^ n < 32768 := by
  have : ∀ n, n < 15 → (0 : Int) < 2 ^ n ∧ (2 : Int) ^ n < 32768 := by decide
  exact this n h

theorem rmul_ac (a b : BitVec 8) : AC Tryd.prog 160 [.u8 a, .u8 b] 0 [] ⟨.u8 (rmulF a b), [], []⟩ := by
  have ha : a.toNat < 256 := a.isLt
  refine ac_of tab mix Tryd.func160 rfl (by kernel_rfl) (by kernel_rfl) (by kernel_rfl) ⟨[4, 9], []⟩ ?_
  repeat first | (refine EffG.mk (And.intro ?_ ?_); focus ((repeat' (first | exact trivial | refine And.intro ?_ ?_)) <;> (first | omega | (simp only [hasTy, okP, lenD, D.ren, D.isCell, Option.getD, List.length_set, List.length_take, List.length_drop, List.length_append, List.length_replicate, List.length_map, List.length_cons, List.length_nil, Option.map] <;> omega) | with_reducible assumption | with_reducible rfl | decide); done)) | (refine And.intro ?_ ?_; focus ((repeat' (first | exact trivial | refine And.intro ?_ ?_)) <;> (first | omega | (simp only [hasTy, okP, lenD, D.ren, D.isCell, Option.getD, List.length_set, List.length_take, List.length_drop, List.length_append, List.length_replicate, List.length_map, List.length_cons, List.length_nil, Option.map] <;> omega) | with_reducible assumption | with_reducible rfl | decide); done)) | refine chkG (by kernel_rfl) ?_
  refine loopG Nat (fun n => [(0, .u8 a), (1, .u8 b), (5, .i64 (rm1 a b n)), (6, .i64 n)]) (fun _ => []) 0 (fun n => n ≤ 8) (fun n => 8 - n) 0 [] (Nat.zero_le _) ?_ ?_
  · exact viewG rfl ⟨rfl, rfl, rfl, rfl, trivial⟩ trivial rfl
  intro n hn
  repeat first | (refine EffG.mk (And.intro ?_ ?_); focus ((repeat' (first | exact trivial | refine And.intro ?_ ?_)) <;> (first | omega | (simp only [hasTy, okP, lenD, D.ren, D.isCell, Option.getD, List.length_set, List.length_take, List.length_drop, List.length_append, List.length_replicate, List.length_map, List.length_cons, List.length_nil, Option.map] <;> omega) | with_reducible assumption | with_reducible rfl | decide); done)) | (refine And.intro ?_ ?_; focus ((repeat' (first | exact trivial | refine And.intro ?_ ?_)) <;> (first | omega | (simp only [hasTy, okP, lenD, D.ren, D.isCell, Option.getD, List.length_set, List.length_take, List.length_drop, List.length_append, List.length_replicate, List.length_map, List.length_cons, List.length_nil, Option.map] <;> omega) | with_reducible assumption | with_reducible rfl | decide); done)) | refine chkG (by kernel_rfl) ?_
  refine Br.split (fun h => ?_) (fun h => ?_)
  · have hn : n < 8 := by have := of_decide_eq_true h; omega
    have e := cnt64 n (by omega)
    refine joinG Unit (fun _ => [(0, .u8 a), (1, .u8 b), (5, .i64 (rm1 a b (n + 1))), (6, .i64 n)]) (fun _ => []) 0 (fun _ => True) ?_ ?_
    · repeat first | rw [e] | (refine EffG.mk (And.intro ?_ ?_); focus ((repeat' (first | exact trivial | refine And.intro ?_ ?_)) <;> (first | omega | (simp only [hasTy, okP, lenD, D.ren, D.isCell, Option.getD, List.length_set, List.length_take, List.length_drop, List.length_append, List.length_replicate, List.length_map, List.length_cons, List.length_nil, Option.map] <;> omega) | with_reducible assumption | with_reducible rfl | decide); done)) | (refine And.intro ?_ ?_; focus ((repeat' (first | exact trivial | refine And.intro ?_ ?_)) <;> (first | omega | (simp only [hasTy, okP, lenD, D.ren, D.isCell, Option.getD, List.length_set, List.length_take, List.length_drop, List.length_append, List.length_replicate, List.length_map, List.length_cons, List.length_nil, Option.map] <;> omega) | with_reducible assumption | with_reducible rfl | decide); done)) | refine chkG (by kernel_rfl) ?_
      refine Br.split (fun h => ?_) (fun h => ?_)
      · have h1 : b >>> n &&& 1 = 1 := of_decide_eq_true h
        have ⟨p1, p2⟩ := pow_lt n (by omega)
        have p3 : (0 : Int) ≤ (a.toNat : Int) * 2 ^ n := Int.mul_nonneg (by omega) (by omega)
        have p4 : (a.toNat : Int) * 2 ^ n ≤ 255 * 32768 := Int.mul_le_mul (by omega) (by omega) (by omega) (by omega)
        repeat first | rw [e] | (refine EffG.mk (And.intro ?_ ?_); focus (rw [e]; (repeat' (first | exact trivial | refine And.intro ?_ ?_)) <;> (first | omega | (simp only [hasTy, okP, lenD, D.ren, D.isCell, Option.getD, List.length_set, List.length_take, List.length_drop, List.length_append, List.length_replicate, List.length_map, List.length_cons, List.length_nil, Option.map] <;> omega) | with_reducible assumption | with_reducible rfl | decide); done)) | (refine EffG.mk (And.intro ?_ ?_); focus ((repeat' (first | exact trivial | refine And.intro ?_ ?_)) <;> (first | omega | (simp only [hasTy, okP, lenD, D.ren, D.isCell, Option.getD, List.length_set, List.length_take, List.length_drop, List.length_append, List.length_replicate, List.length_map, List.length_cons, List.length_nil, Option.map] <;> omega) | with_reducible assumption | with_reducible rfl | decide); done)) | (refine And.intro ?_ ?_; focus ((repeat' (first | exact trivial | refine And.intro ?_ ?_)) <;> (first | omega | (simp only [hasTy, okP, lenD, D.ren, D.isCell, Option.getD, List.length_set, List.length_take, List.length_drop, List.length_append, List.length_replicate, List.length_map, List.length_cons, List.length_nil, Option.map] <;> omega) | with_reducible assumption | with_reducible rfl | decide); done)) | refine chkG (by kernel_rfl) ?_
        refine meetG () [] trivial (viewG rfl ⟨rfl, rfl, congrArg (fun x => some (D.i64 x)) (if_pos h1).symm, rfl, trivial⟩ trivial rfl)
      · have h1 : ¬ b >>> n &&& 1 = 1 := of_decide_eq_false h
        refine meetG () [] trivial (viewG rfl ⟨rfl, rfl, congrArg (fun x => some (D.i64 x)) (if_neg h1).symm, rfl, trivial⟩ trivial rfl)
    intro _ _
    repeat first | (refine EffG.mk (And.intro ?_ ?_); focus ((repeat' (first | exact trivial | refine And.intro ?_ ?_)) <;> (first | omega | (simp only [hasTy, okP, lenD, D.ren, D.isCell, Option.getD, List.length_set, List.length_take, List.length_drop, List.length_append, List.length_replicate, List.length_map, List.length_cons, List.length_nil, Option.map] <;> omega) | with_reducible assumption | with_reducible rfl | decide); done)) | (refine And.intro ?_ ?_; focus ((repeat' (first | exact trivial | refine And.intro ?_ ?_)) <;> (first | omega | (simp only [hasTy, okP, lenD, D.ren, D.isCell, Option.getD, List.length_set, List.length_take, List.length_drop, List.length_append, List.length_replicate, List.length_map, List.length_cons, List.length_nil, Option.map] <;> omega) | with_reducible assumption | with_reducible rfl | decide); done)) | refine chkG (by kernel_rfl) ?_
    refine nextG (n + 1) [] ?_ ?_ ?_
    · omega
    · omega
    · exact viewG rfl ⟨rfl, rfl, rfl, rfl, trivial⟩ trivial rfl
  have hn : n = 8 := by have := of_decide_eq_false h; omega
  subst hn
  have hr : rmulF a b = BitVec.ofInt 8 (rm2 (rm1 a b 8) 7) := rfl
  rw [hr]
  generalize rm1 a b 8 = p
  repeat first | (refine EffG.mk (And.intro ?_ ?_); focus ((repeat' (first | exact trivial | refine And.intro ?_ ?_)) <;> (first | omega | (simp only [hasTy, okP, lenD, D.ren, D.isCell, Option.getD, List.length_set, List.length_take, List.length_drop, List.length_append, List.length_replicate, List.length_map, List.length_cons, List.length_nil, Option.map] <;> omega) | with_reducible assumption | with_reducible rfl | decide); done)) | (refine And.intro ?_ ?_; focus ((repeat' (first | exact trivial | refine And.intro ?_ ?_)) <;> (first | omega | (simp only [hasTy, okP, lenD, D.ren, D.isCell, Option.getD, List.length_set, List.length_take, List.length_drop, List.length_append, List.length_replicate, List.length_map, List.length_cons, List.length_nil, Option.map] <;> omega) | with_reducible assumption | with_reducible rfl | decide); done)) | refine chkG (by kernel_rfl) ?_
  refine loopG Nat (fun k => [(5, .i64 (rm2 p k)), (7, .i64 (14 - k : Nat))]) (fun _ => []) 0 (fun k => k ≤ 7) (fun k => 7 - k) 0 [] (Nat.zero_le _) ?_ ?_
  · exact viewG rfl ⟨rfl, rfl, trivial⟩ trivial rfl
  intro k hk
  repeat first | (refine EffG.mk (And.intro ?_ ?_); focus ((repeat' (first | exact trivial | refine And.intro ?_ ?_)) <;> (first | omega | (simp only [hasTy, okP, lenD, D.ren, D.isCell, Option.getD, List.length_set, List.length_take, List.length_drop, List.length_append, List.length_replicate, List.length_map, List.length_cons, List.length_nil, Option.map] <;> omega) | with_reducible assumption | with_reducible rfl | decide); done)) | (refine And.intro ?_ ?_; focus ((repeat' (first | exact trivial | refine And.intro ?_ ?_)) <;> (first | omega | (simp only [hasTy, okP, lenD, D.ren, D.isCell, Option.getD, List.length_set, List.length_take, List.length_drop, List.length_append, List.length_replicate, List.length_map, List.length_cons, List.length_nil, Option.map] <;> omega) | with_reducible assumption | with_reducible rfl | decide); done)) | refine chkG (by kernel_rfl) ?_
  refine Br.split (fun h => ?_) (fun h => ?_)
  · have hk : k < 7 := by have := of_decide_eq_true h; omega
    have e := cnt64 (14 - k) (by omega)
    have e2 : ((14 - k : Nat) : Int) - 8 = ((6 - k : Nat) : Int) := by omega
    have e3 := cnt64 (6 - k) (by omega)
    refine joinG Unit (fun _ => [(5, .i64 (rm2 p (k + 1))), (7, .i64 (14 - k : Nat))]) (fun _ => []) 0 (fun _ => True) ?_ ?_
    · repeat first | rw [e] | (refine EffG.mk (And.intro ?_ ?_); focus ((repeat' (first | exact trivial | refine And.intro ?_ ?_)) <;> (first | omega | (simp only [hasTy, okP, lenD, D.ren, D.isCell, Option.getD, List.length_set, List.length_take, List.length_drop, List.length_append, List.length_replicate, List.length_map, List.length_cons, List.length_nil, Option.map] <;> omega) | with_reducible assumption | with_reducible rfl | decide); done)) | (refine And.intro ?_ ?_; focus ((repeat' (first | exact trivial | refine And.intro ?_ ?_)) <;> (first | omega | (simp only [hasTy, okP, lenD, D.ren, D.isCell, Option.getD, List.length_set, List.length_take, List.length_drop, List.length_append, List.length_replicate, List.length_map, List.length_cons, List.length_nil, Option.map] <;> omega) | with_reducible assumption | with_reducible rfl | decide); done)) | refine chkG (by kernel_rfl) ?_
      refine Br.split (fun h => ?_) (fun h => ?_)
      · have h1 : (BitVec.ofInt 64 (rm2 p k / 2 ^ (14 - k)) &&& BitVec.ofInt 64 1).toInt = 1 := of_decide_eq_true h
        have ⟨p1, p2⟩ := pow_lt (6 - k) (by omega)
        repeat first | rw [e2] | rw [e3] | (refine EffG.mk (And.intro ?_ ?_); focus (rw [e3]; (repeat' (first | exact trivial | refine And.intro ?_ ?_)) <;> (first | omega | (simp only [hasTy, okP, lenD, D.ren, D.isCell, Option.getD, List.length_set, List.length_take, List.length_drop, List.length_append, List.length_replicate, List.length_map, List.length_cons, List.length_nil, Option.map] <;> omega) | with_reducible assumption | with_reducible rfl | decide); done)) | (refine EffG.mk (And.intro ?_ ?_); focus ((repeat' (first | exact trivial | refine And.intro ?_ ?_)) <;> (first | omega | (simp only [hasTy, okP, lenD, D.ren, D.isCell, Option.getD, List.length_set, List.length_take, List.length_drop, List.length_append, List.length_replicate, List.length_map, List.length_cons, List.length_nil, Option.map] <;> omega) | with_reducible assumption | with_reducible rfl | decide); done)) | (refine And.intro ?_ ?_; focus ((repeat' (first | exact trivial | refine And.intro ?_ ?_)) <;> (first | omega | (simp only [hasTy, okP, lenD, D.ren, D.isCell, Option.getD, List.length_set, List.length_take, List.length_drop, List.length_append, List.length_replicate, List.length_map, List.length_cons, List.length_nil, Option.map] <;> omega) | with_reducible assumption | with_reducible rfl | decide); done)) | refine chkG (by kernel_rfl) ?_
        refine meetG () [] trivial (viewG rfl ⟨congrArg (fun x => some (D.i64 x)) (if_pos h1).symm, rfl, trivial⟩ trivial rfl)
      · have h1 : ¬ (BitVec.ofInt 64 (rm2 p k / 2 ^ (14 - k)) &&& BitVec.ofInt 64 1).toInt = 1 := of_decide_eq_false h
        refine meetG () [] trivial (viewG rfl ⟨congrArg (fun x => some (D.i64 x)) (if_neg h1).symm, rfl, trivial⟩ trivial rfl)
    intro _ _
    repeat first | (refine EffG.mk (And.intro ?_ ?_); focus ((repeat' (first | exact trivial | refine And.intro ?_ ?_)) <;> (first | omega | (simp only [hasTy, okP, lenD, D.ren, D.isCell, Option.getD, List.length_set, List.length_take, List.length_drop, List.length_append, List.length_replicate, List.length_map, List.length_cons, List.length_nil, Option.map] <;> omega) | with_reducible assumption | with_reducible rfl | decide); done)) | (refine And.intro ?_ ?_; focus ((repeat' (first | exact trivial | refine And.intro ?_ ?_)) <;> (first | omega | (simp only [hasTy, okP, lenD, D.ren, D.isCell, Option.getD, List.length_set, List.length_take, List.length_drop, List.length_append, List.length_replicate, List.length_map, List.length_cons, List.length_nil, Option.map] <;> omega) | with_reducible assumption | with_reducible rfl | decide); done)) | refine chkG (by kernel_rfl) ?_
    refine nextG (k + 1) [] ?_ ?_ ?_
    · omega
    · omega
    · exact viewG rfl ⟨rfl, congrArg (fun x => some (D.i64 x)) (by omega), trivial⟩ trivial rfl
  have hk : k = 7 := by have := of_decide_eq_false h; omega
  subst hk
  repeat first | (refine EffG.mk (And.intro ?_ ?_); focus ((repeat' (first | exact trivial | refine And.intro ?_ ?_)) <;> (first | omega | (simp only [hasTy, okP, lenD, D.ren, D.isCell, Option.getD, List.length_set, List.length_take, List.length_drop, List.length_append, List.length_replicate, List.length_map, List.length_cons, List.length_nil, Option.map] <;> omega) | with_reducible assumption | with_reducible rfl | decide); done)) | (refine And.intro ?_ ?_; focus ((repeat' (first | exact trivial | refine And.intro ?_ ?_)) <;> (first | omega | (simp only [hasTy, okP, lenD, D.ren, D.isCell, Option.getD, List.length_set, List.length_take, List.length_drop, List.length_append, List.length_replicate, List.length_map, List.length_cons, List.length_nil, Option.map] <;> omega) | with_reducible assumption | with_reducible rfl | decide); done)) | refine chkG (by kernel_rfl) ?_
  refine retG [] rfl rfl trivial rfl

def rndJ : Nat → BitVec 8
  | 0 => 1
  | m + 1 => mulF (rndJ m) 2
def rpowF (a : BitVec 8) : Nat → BitVec 8
  | 0 => 1
  | n + 1 => rmulF (rpowF a n) a

/-- for a base other than nothing, and a small exponent -/
theorem rpow_ac (a : BitVec 8) (ha : a ≠ 0) (n : Nat) (h1 : n < 255) : AC Tryd.prog 152 [.u8 a, .i64 n] 0 [] ⟨.u8 (rpowF a n), [], []⟩ := by
  have hrem : Int.tmod (n : Int) 255 = (n : Int) := Int.tmod_eq_of_lt (by omega) (by omega)
  refine ac_of tab mix Tryd.func152 rfl (by kernel_rfl) (by kernel_rfl) (by kernel_rfl) {} ?_
  repeat first | (refine EffG.mk (And.intro ?_ ?_); focus ((repeat' (first | exact trivial | refine And.intro ?_ ?_)) <;> (first | omega | (simp only [hasTy, okP, lenD, D.ren, D.isCell, Option.getD, List.length_set, List.length_take, List.length_drop, List.length_append, List.length_replicate, List.length_map, List.length_cons, List.length_nil, Option.map] <;> omega) | with_reducible assumption | with_reducible rfl | decide); done)) | (refine And.intro ?_ ?_; focus ((repeat' (first | exact trivial | refine And.intro ?_ ?_)) <;> (first | omega | (simp only [hasTy, okP, lenD, D.ren, D.isCell, Option.getD, List.length_set, List.length_take, List.length_drop, List.length_append, List.length_replicate, List.length_map, List.length_cons, List.length_nil, Option.map] <;> omega) | with_reducible assumption | with_reducible rfl | decide); done)) | refine chkG (by kernel_rfl) ?_
  refine Br.no (decide_eq_false ha) ?_
  repeat first | rw [hrem] | (refine EffG.mk (And.intro ?_ ?_); focus ((repeat' (first | exact trivial | refine And.intro ?_ ?_)) <;> (first | omega | (simp only [hasTy, okP, lenD, D.ren, D.isCell, Option.getD, List.length_set, List.length_take, List.length_drop, List.length_append, List.length_replicate, List.length_map, List.length_cons, List.length_nil, Option.map] <;> omega) | with_reducible assumption | with_reducible rfl | decide); done)) | (refine And.intro ?_ ?_; focus ((repeat' (first | exact trivial | refine And.intro ?_ ?_)) <;> (first | omega | (simp only [hasTy, okP, lenD, D.ren, D.isCell, Option.getD, List.length_set, List.length_take, List.length_drop, List.length_append, List.length_replicate, List.length_map, List.length_cons, List.length_nil, Option.map] <;> omega) | with_reducible assumption | with_reducible rfl | decide); done)) | refine chkG (by kernel_rfl) ?_
  refine Br.no (decide_eq_false (by omega)) ?_
  repeat first | (refine EffG.mk (And.intro ?_ ?_); focus ((repeat' (first | exact trivial | refine And.intro ?_ ?_)) <;> (first | omega | (simp only [hasTy, okP, lenD, D.ren, D.isCell, Option.getD, List.length_set, List.length_take, List.length_drop, List.length_append, List.length_replicate, List.length_map, List.length_cons, List.length_nil, Option.map] <;> omega) | with_reducible assumption | with_reducible rfl | decide); done)) | (refine And.intro ?_ ?_; focus ((repeat' (first | exact trivial | refine And.intro ?_ ?_)) <;> (first | omega | (simp only [hasTy, okP, lenD, D.ren, D.isCell, Option.getD, List.length_set, List.length_take, List.length_drop, List.length_append, List.length_replicate, List.length_map, List.length_cons, List.length_nil, Option.map] <;> omega) | with_reducible assumption | with_reducible rfl | decide); done)) | refine chkG (by kernel_rfl) ?_
  refine loopG Nat (fun i => [(0, .u8 a), (1, .i64 n), (5, .u8 (rpowF a i)), (6, .i64 i)]) (fun _ => []) 0 (fun i => i ≤ n) (fun i => n - i) 0 [] (Nat.zero_le _) ?_ ?_
  · exact viewG rfl ⟨rfl, rfl, rfl, rfl, trivial⟩ trivial rfl
  intro i hi
  repeat first | (refine EffG.mk (And.intro ?_ ?_); focus ((repeat' (first | exact trivial | refine And.intro ?_ ?_)) <;> (first | omega | (simp only [hasTy, okP, lenD, D.ren, D.isCell, Option.getD, List.length_set, List.length_take, List.length_drop, List.length_append, List.length_replicate, List.length_map, List.length_cons, List.length_nil, Option.map] <;> omega) | with_reducible assumption | with_reducible rfl | decide); done)) | (refine And.intro ?_ ?_; focus ((repeat' (first | exact trivial | refine And.intro ?_ ?_)) <;> (first | omega | (simp only [hasTy, okP, lenD, D.ren, D.isCell, Option.getD, List.length_set, List.length_take, List.length_drop, List.length_append, List.length_replicate, List.length_map, List.length_cons, List.length_nil, Option.map] <;> omega) | with_reducible assumption | with_reducible rfl | decide); done)) | refine chkG (by kernel_rfl) ?_
  refine Br.split (fun h => ?_) (fun h => ?_)
  · have hi : i < n := by have := of_decide_eq_true h; omega
    repeat first | (refine EffG.mk (And.intro ?_ ?_); focus ((repeat' (first | exact trivial | refine And.intro ?_ ?_)) <;> (first | omega | (simp only [hasTy, okP, lenD, D.ren, D.isCell, Option.getD, List.length_set, List.length_take, List.length_drop, List.length_append, List.length_replicate, List.length_map, List.length_cons, List.length_nil, Option.map] <;> omega) | with_reducible assumption | with_reducible rfl | decide); done)) | (refine And.intro ?_ ?_; focus ((repeat' (first | exact trivial | refine And.intro ?_ ?_)) <;> (first | omega | (simp only [hasTy, okP, lenD, D.ren, D.isCell, Option.getD, List.length_set, List.length_take, List.length_drop, List.length_append, List.length_replicate, List.length_map, List.length_cons, List.length_nil, Option.map] <;> omega) | with_reducible assumption | with_reducible rfl | decide); done)) | refine chkG (by kernel_rfl) ?_
    refine callG (rmul_ac _ _) [] rfl rfl trivial rfl rfl ?_
    repeat first | (refine EffG.mk (And.intro ?_ ?_); focus ((repeat' (first | exact trivial | refine And.intro ?_ ?_)) <;> (first | omega | (simp only [hasTy, okP, lenD, D.ren, D.isCell, Option.getD, List.length_set, List.length_take, List.length_drop, List.length_append, List.length_replicate, List.length_map, List.length_cons, List.length_nil, Option.map] <;> omega) | with_reducible assumption | with_reducible rfl | decide); done)) | (refine And.intro ?_ ?_; focus ((repeat' (first | exact trivial | refine And.intro ?_ ?_)) <;> (first | omega | (simp only [hasTy, okP, lenD, D.ren, D.isCell, Option.getD, List.length_set, List.length_take, List.length_drop, List.length_append, List.length_replicate, List.length_map, List.length_cons, List.length_nil, Option.map] <;> omega) | with_reducible assumption | with_reducible rfl | decide); done)) | refine chkG (by kernel_rfl) ?_
    refine nextG (i + 1) [] ?_ ?_ ?_
    · omega
    · omega
    · exact viewG rfl ⟨rfl, rfl, rfl, rfl, trivial⟩ trivial rfl
  have hi : i = n := by have := of_decide_eq_false h; omega
  subst hi
  repeat first | (refine EffG.mk (And.intro ?_ ?_); focus ((repeat' (first | exact trivial | refine And.intro ?_ ?_)) <;> (first | omega | (simp only [hasTy, okP, lenD, D.ren, D.isCell, Option.getD, List.length_set, List.length_take, List.length_drop, List.length_append, List.length_replicate, List.length_map, List.length_cons, List.length_nil, Option.map] <;> omega) | with_reducible assumption | with_reducible rfl | decide); done)) | (refine And.intro ?_ ?_; focus ((repeat' (first | exact trivial | refine And.intro ?_ ?_)) <;> (first | omega | (simp only [hasTy, okP, lenD, D.ren, D.isCell, Option.getD, List.length_set, List.length_take, List.length_drop, List.length_append, List.length_replicate, List.length_map, List.length_cons, List.length_nil, Option.map] <;> omega) | with_reducible assumption | with_reducible rfl | decide); done)) | refine chkG (by kernel_rfl) ?_
  refine retG [] rfl rfl trivial rfl
theorem rpow_rnd : ∀ m, m < 7 → rpowF 2 m = rndJ m := by decide +kernel

end Go.Proofs.YtodkhgofmgaafaaDoor.Av
