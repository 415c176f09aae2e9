import Derived.Test.YtljkjdhkofbgmaaDoorBlock
namespace Go.Proofs.YtljkjdhkofbgmaaDoor.Av
open Go
set_option linter.all false
set_option maxRecDepth 3000

def colI (s : List (BitVec 8)) (all : BitVec 8) (c : Nat) : Nat → List (BitVec 8)
  | 0 => s
  | r + 1 => (colI s all c r).set (c + r) ((colI s all c r).getD (c + r) 0 ^^^ (all ^^^ shiftF ((colI s all c r).getD (c + r) 0 ^^^ (colI s all c r).getD (c + r + 1) 0)))
def allF (s : List (BitVec 8)) (c : Nat) : BitVec 8 := s.getD c 0 ^^^ s.getD (c + 1) 0 ^^^ s.getD (c + 2) 0 ^^^ s.getD (c + 3) 0
def colF (s : List (BitVec 8)) (c : Nat) : List (BitVec 8) :=
  (colI s (allF s c) c 3).set (c + 3) ((colI s (allF s c) c 3).getD (c + 3) 0 ^^^ (allF s c ^^^ shiftF ((colI s (allF s c) c 3).getD (c + 3) 0 ^^^ s.getD c 0)))
def mixI (s : List (BitVec 8)) : Nat → List (BitVec 8)
  | 0 => s
  | j + 1 => colF (mixI s j) (4 * j)
def mixF (s : List (BitVec 8)) : List (BitVec 8) := mixI s 4

theorem colI_length (s : List (BitVec 8)) (a : BitVec 8) (c : Nat) : ∀ r, (colI s a c r).length = s.length
  | 0 => rfl
  | r + 1 => by rw [colI, List.length_set, colI_length s a c r]
theorem colF_length (s : List (BitVec 8)) (c : Nat) : (colF s c).length = s.length := by rw [colF, List.length_set, colI_length]
theorem mixI_length (s : List (BitVec 8)) : ∀ j, (mixI s j).length = s.length
  | 0 => rfl
  | j + 1 => by rw [mixI, colF_length, mixI_length s j]

set_option maxHeartbeats 4000000 in
theorem mixed_ac (s : List (BitVec 8)) (hs : s.length = 16) : AC Tryd.prog 44 [.u8s s] 0 [] ⟨.u8s (mixF s), [], []⟩ := by
  refine ac_of tab mix Tryd.func44 rfl (by kernel_rfl) (by kernel_rfl) (by kernel_rfl) {} ?_
  repeat first | (refine EffG.mk (And.intro ?_ ?_); focus ((repeat' (first | exact trivial | refine And.intro ?_ ?_)) <;> (first | omega | (simp only [hasTy, okP, lenD, D.ren, D.isCell, Option.getD, List.length_set, List.length_take, List.length_drop, List.length_append, List.length_replicate, List.length_map, List.length_cons, List.length_nil, Option.map] <;> omega) | with_reducible assumption | with_reducible rfl | decide); done)) | (refine And.intro ?_ ?_; focus ((repeat' (first | exact trivial | refine And.intro ?_ ?_)) <;> (first | omega | (simp only [hasTy, okP, lenD, D.ren, D.isCell, Option.getD, List.length_set, List.length_take, List.length_drop, List.length_append, List.length_replicate, List.length_map, List.length_cons, List.length_nil, Option.map] <;> omega) | with_reducible assumption | with_reducible rfl | decide); done)) | refine chkG (by kernel_rfl) ?_ | refine Br.yes rfl ?_ | refine Br.no rfl ?_
  refine loopG Nat (fun j => [(1, .ptr 0 []), (2, .ptr 1 []), (3, .i64 (4 * j : Nat))]) (fun j => [(0, some ⟨t16, .u8s (mixI s j), true⟩), (1, some ⟨t16, .u8s (List.replicate 16 0), true⟩)]) 2
    (fun j => j ≤ 4) (fun j => 4 - j) 0 [0, 1] (Nat.zero_le _) ?_ ?_
  · exact viewG rfl ⟨rfl, rfl, rfl, trivial⟩ ⟨⟨_, rfl, rfl, rfl, id⟩, ⟨_, rfl, rfl, rfl, id⟩, trivial⟩ rfl
  intro j hj
  have hl := mixI_length s j
  rw [hs] at hl
  repeat first | (refine EffG.mk (And.intro ?_ ?_); focus ((repeat' (first | exact trivial | refine And.intro ?_ ?_)) <;> (first | omega | (simp only [hasTy, okP, lenD, D.ren, D.isCell, Option.getD, List.length_set, List.length_take, List.length_drop, List.length_append, List.length_replicate, List.length_map, List.length_cons, List.length_nil, Option.map] <;> omega) | with_reducible assumption | with_reducible rfl | decide); done)) | (refine And.intro ?_ ?_; focus ((repeat' (first | exact trivial | refine And.intro ?_ ?_)) <;> (first | omega | (simp only [hasTy, okP, lenD, D.ren, D.isCell, Option.getD, List.length_set, List.length_take, List.length_drop, List.length_append, List.length_replicate, List.length_map, List.length_cons, List.length_nil, Option.map] <;> omega) | with_reducible assumption | with_reducible rfl | decide); done)) | refine chkG (by kernel_rfl) ?_ | refine Br.yes rfl ?_ | refine Br.no rfl ?_
  refine Br.split (fun h => ?_) (fun h => ?_)
  · have hj : j < 4 := by have := of_decide_eq_true h; omega
    repeat first | (refine EffG.mk (And.intro ?_ ?_); focus ((repeat' (first | exact trivial | refine And.intro ?_ ?_)) <;> (first | omega | (simp only [hasTy, okP, lenD, D.ren, D.isCell, Option.getD, List.length_set, List.length_take, List.length_drop, List.length_append, List.length_replicate, List.length_map, List.length_cons, List.length_nil, Option.map] <;> omega) | with_reducible assumption | with_reducible rfl | decide); done)) | (refine And.intro ?_ ?_; focus ((repeat' (first | exact trivial | refine And.intro ?_ ?_)) <;> (first | omega | (simp only [hasTy, okP, lenD, D.ren, D.isCell, Option.getD, List.length_set, List.length_take, List.length_drop, List.length_append, List.length_replicate, List.length_map, List.length_cons, List.length_nil, Option.map] <;> omega) | with_reducible assumption | with_reducible rfl | decide); done)) | refine chkG (by kernel_rfl) ?_ | refine Br.yes rfl ?_ | refine Br.no rfl ?_
    refine loopG Nat (fun r => [(1, .ptr 0 []), (2, .ptr 1 []), (3, .i64 (4 * j : Nat)), (4, .u8 (allF (mixI s j) (4 * j))), (5, .u8 ((mixI s j).getD (4 * j) 0)), (32, .i64 r)])
      (fun r => [(0, some ⟨t16, .u8s (colI (mixI s j) (allF (mixI s j) (4 * j)) (4 * j) r), true⟩), (1, some ⟨t16, .u8s (List.replicate 16 0), true⟩)]) 2
      (fun r => r ≤ 3) (fun r => 3 - r) 0 [0, 1] (Nat.zero_le _) ?_ ?_
    · exact viewG rfl ⟨rfl, rfl, rfl, rfl, rfl, rfl, trivial⟩ ⟨⟨_, rfl, rfl, rfl, id⟩, ⟨_, rfl, rfl, rfl, id⟩, trivial⟩ rfl
    intro r hr
    have hc := colI_length (mixI s j) (allF (mixI s j) (4 * j)) (4 * j) r
    rw [hl] at hc
    repeat first | (refine EffG.mk (And.intro ?_ ?_); focus ((repeat' (first | exact trivial | refine And.intro ?_ ?_)) <;> (first | omega | (simp only [hasTy, okP, lenD, D.ren, D.isCell, Option.getD, List.length_set, List.length_take, List.length_drop, List.length_append, List.length_replicate, List.length_map, List.length_cons, List.length_nil, Option.map] <;> omega) | with_reducible assumption | with_reducible rfl | decide); done)) | (refine And.intro ?_ ?_; focus ((repeat' (first | exact trivial | refine And.intro ?_ ?_)) <;> (first | omega | (simp only [hasTy, okP, lenD, D.ren, D.isCell, Option.getD, List.length_set, List.length_take, List.length_drop, List.length_append, List.length_replicate, List.length_map, List.length_cons, List.length_nil, Option.map] <;> omega) | with_reducible assumption | with_reducible rfl | decide); done)) | refine chkG (by kernel_rfl) ?_ | refine Br.yes rfl ?_ | refine Br.no rfl ?_
    refine Br.split (fun h => ?_) (fun h => ?_)
    · have hr : r < 3 := by have := of_decide_eq_true h; omega
      repeat first | (refine EffG.mk (And.intro ?_ ?_); focus ((repeat' (first | exact trivial | refine And.intro ?_ ?_)) <;> (first | omega | (simp only [hasTy, okP, lenD, D.ren, D.isCell, Option.getD, List.length_set, List.length_take, List.length_drop, List.length_append, List.length_replicate, List.length_map, List.length_cons, List.length_nil, Option.map] <;> omega) | with_reducible assumption | with_reducible rfl | decide); done)) | (refine And.intro ?_ ?_; focus ((repeat' (first | exact trivial | refine And.intro ?_ ?_)) <;> (first | omega | (simp only [hasTy, okP, lenD, D.ren, D.isCell, Option.getD, List.length_set, List.length_take, List.length_drop, List.length_append, List.length_replicate, List.length_map, List.length_cons, List.length_nil, Option.map] <;> omega) | with_reducible assumption | with_reducible rfl | decide); done)) | refine chkG (by kernel_rfl) ?_ | refine Br.yes rfl ?_ | refine Br.no rfl ?_
      refine callG (double_ac _) [] rfl rfl trivial rfl rfl ?_
      repeat first | (refine EffG.mk (And.intro ?_ ?_); focus ((repeat' (first | exact trivial | refine And.intro ?_ ?_)) <;> (first | omega | (simp only [hasTy, okP, lenD, D.ren, D.isCell, Option.getD, List.length_set, List.length_take, List.length_drop, List.length_append, List.length_replicate, List.length_map, List.length_cons, List.length_nil, Option.map] <;> omega) | with_reducible assumption | with_reducible rfl | decide); done)) | (refine And.intro ?_ ?_; focus ((repeat' (first | exact trivial | refine And.intro ?_ ?_)) <;> (first | omega | (simp only [hasTy, okP, lenD, D.ren, D.isCell, Option.getD, List.length_set, List.length_take, List.length_drop, List.length_append, List.length_replicate, List.length_map, List.length_cons, List.length_nil, Option.map] <;> omega) | with_reducible assumption | with_reducible rfl | decide); done)) | refine chkG (by kernel_rfl) ?_ | refine Br.yes rfl ?_ | refine Br.no rfl ?_
      refine nextG (r + 1) [0, 1] ?_ ?_ ?_
      · omega
      · omega
      · exact viewG rfl ⟨rfl, rfl, rfl, rfl, rfl, rfl, trivial⟩ ⟨⟨_, rfl, rfl, rfl, id⟩, ⟨_, rfl, rfl, rfl, id⟩, trivial⟩ rfl
    · have hr : r = 3 := by have := of_decide_eq_false h; omega
      subst hr
      repeat first | (refine EffG.mk (And.intro ?_ ?_); focus ((repeat' (first | exact trivial | refine And.intro ?_ ?_)) <;> (first | omega | (simp only [hasTy, okP, lenD, D.ren, D.isCell, Option.getD, List.length_set, List.length_take, List.length_drop, List.length_append, List.length_replicate, List.length_map, List.length_cons, List.length_nil, Option.map] <;> omega) | with_reducible assumption | with_reducible rfl | decide); done)) | (refine And.intro ?_ ?_; focus ((repeat' (first | exact trivial | refine And.intro ?_ ?_)) <;> (first | omega | (simp only [hasTy, okP, lenD, D.ren, D.isCell, Option.getD, List.length_set, List.length_take, List.length_drop, List.length_append, List.length_replicate, List.length_map, List.length_cons, List.length_nil, Option.map] <;> omega) | with_reducible assumption | with_reducible rfl | decide); done)) | refine chkG (by kernel_rfl) ?_ | refine Br.yes rfl ?_ | refine Br.no rfl ?_
      refine callG (double_ac _) [] rfl rfl trivial rfl rfl ?_
      repeat first | (refine EffG.mk (And.intro ?_ ?_); focus ((repeat' (first | exact trivial | refine And.intro ?_ ?_)) <;> (first | omega | (simp only [hasTy, okP, lenD, D.ren, D.isCell, Option.getD, List.length_set, List.length_take, List.length_drop, List.length_append, List.length_replicate, List.length_map, List.length_cons, List.length_nil, Option.map] <;> omega) | with_reducible assumption | with_reducible rfl | decide); done)) | (refine And.intro ?_ ?_; focus ((repeat' (first | exact trivial | refine And.intro ?_ ?_)) <;> (first | omega | (simp only [hasTy, okP, lenD, D.ren, D.isCell, Option.getD, List.length_set, List.length_take, List.length_drop, List.length_append, List.length_replicate, List.length_map, List.length_cons, List.length_nil, Option.map] <;> omega) | with_reducible assumption | with_reducible rfl | decide); done)) | refine chkG (by kernel_rfl) ?_ | refine Br.yes rfl ?_ | refine Br.no rfl ?_
      refine nextG (j + 1) [0, 1] ?_ ?_ ?_
      · omega
      · omega
      · exact viewG rfl ⟨rfl, rfl, rfl, trivial⟩ ⟨⟨_, rfl, rfl, rfl, id⟩, ⟨_, rfl, rfl, rfl, id⟩, trivial⟩ rfl
  · have hj : j = 4 := by have := of_decide_eq_false h; omega
    repeat first | (refine EffG.mk (And.intro ?_ ?_); focus ((repeat' (first | exact trivial | refine And.intro ?_ ?_)) <;> (first | omega | (simp only [hasTy, okP, lenD, D.ren, D.isCell, Option.getD, List.length_set, List.length_take, List.length_drop, List.length_append, List.length_replicate, List.length_map, List.length_cons, List.length_nil, Option.map] <;> omega) | with_reducible assumption | with_reducible rfl | decide); done)) | (refine And.intro ?_ ?_; focus ((repeat' (first | exact trivial | refine And.intro ?_ ?_)) <;> (first | omega | (simp only [hasTy, okP, lenD, D.ren, D.isCell, Option.getD, List.length_set, List.length_take, List.length_drop, List.length_append, List.length_replicate, List.length_map, List.length_cons, List.length_nil, Option.map] <;> omega) | with_reducible assumption | with_reducible rfl | decide); done)) | refine chkG (by kernel_rfl) ?_ | refine Br.yes rfl ?_ | refine Br.no rfl ?_
    refine retG [] ?_ rfl trivial rfl
    refine congrArg D.u8s ?_
    rw [hj]; rfl
end Go.Proofs.YtljkjdhkofbgmaaDoor.Av
