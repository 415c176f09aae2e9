import Derived.Test.YtljkjdhkofbgmaaXtsAwake
namespace Go.Proofs.Ytljkjdhkofbgmaa.Av
open Go
set_option linter.all false

theorem ov_two (f : List (BitVec 8) → List (BitVec 8)) (k2 : List (List (BitVec 8))) (bs : List (BitVec 8)) (s : BitVec 64) : ovI f k2 bs 0 s 2 = ovI f k2 bs 0 s 1 ++ ovI f k2 bs 512 (s + BitVec.ofNat 64 1) 1 := by
  rw [ovI_cat, ovI_cat, ovI_cat, show 32 * 2 = 32 + 32 from rfl, show 32 * 1 = 32 from rfl, catB_add]
  refine congrArg (catB (blkK f k2 bs 0 s) 32 ++ ·) (catB_congr fun k hk => ?_)
  show blkF f (twK k2 s (32 + k)) (chunk bs (0 + 16 * (32 + k))) = blkF f (twK k2 (s + BitVec.ofNat 64 1) k) (chunk bs (512 + 16 * k))
  have e : twK k2 s (32 + k) = twK k2 (s + BitVec.ofNat 64 1) k := by
    unfold twK
    rw [show (32 + k) / 32 = 1 by omega, show (32 + k) % 32 = k by omega, show k / 32 = 0 by omega, show k % 32 = k by omega, show s + BitVec.ofNat 64 1 + BitVec.ofNat 64 0 = s + BitVec.ofNat 64 1 from BitVec.add_zero _]
  rw [show 0 + 16 * (32 + k) = 512 + 16 * k by omega, e]

abbrev t1024 : Ty := .arr 1024 .cell

theorem xalone_ex (a b bs : List (BitVec 8)) (s : BitVec 64) (ha : a.length = 32) (hb : b.length = 32) (hl : bs.length = 1024) :
    ∃ (k1 k2 : List (List (BitVec 8))) (E A B : List (BitVec 8)), E.length = 1024 ∧ A.length = 512 ∧ B.length = 512 ∧ E = A ++ B ∧
    AC Try.prog 6 [.u8s a, .u8s b] 0 [] ⟨.ptr 0 [], [], [(tX, .node [.ptr 1 [], .ptr 2 []]), (tC, keysD k1), (tC, keysD k2)]⟩ ∧
    AC Try.prog 7 [.ptr 0 [], .u64 s, .slice 3 [] 0 (512 * 2) (some 1024)] 4 (xMem k1 k2 t1024 bs) ⟨.tup [.slice 4 [] 0 (512 * 2) none, .i64 0], [], [(.row .cell, .u8s E)]⟩ ∧
    AC Try.prog 7 [.ptr 0 [], .u64 s, .slice 3 [] 0 (512 * 1) (some 1024)] 4 (xMem k1 k2 t1024 bs) ⟨.tup [.slice 4 [] 0 (512 * 1) none, .i64 0], [], [(.row .cell, .u8s A)]⟩ ∧
    AC Try.prog 7 [.ptr 0 [], .u64 (s + BitVec.ofNat 64 1), .slice 3 [] 512 (512 * 1) (some 512)] 4 (xMem k1 k2 t1024 bs) ⟨.tup [.slice 4 [] 0 (512 * 1) none, .i64 0], [], [(.row .cell, .u8s B)]⟩ := by
  have h1 := rows_sched a ha
  have h2 := rows_sched b hb
  have hn := xnew_ac a b ha hb
  generalize schedF a = k1 at h1 hn
  generalize schedF b = k2 at h2 hn
  have hE := seal_length k1 k2 bs 0 2 s (by omega)
  have hA := seal_length k1 k2 bs 0 1 s (by omega)
  have hB := seal_length k1 k2 bs 512 1 (s + BitVec.ofNat 64 1) (by omega)
  exact ⟨k1, k2, _, _, _, hE, hA, hB, ov_two (encF k1) k2 bs s, hn, seal_ac t1024 (.inr ⟨1024, rfl⟩) k1 k2 h1 h2 bs 0 2 (some 1024) s (by omega) (by omega) (by omega),
    seal_ac t1024 (.inr ⟨1024, rfl⟩) k1 k2 h1 h2 bs 0 1 (some 1024) s (by omega) (by omega) (by omega), seal_ac t1024 (.inr ⟨1024, rfl⟩) k1 k2 h1 h2 bs 512 1 (some 512) _ (by omega) (by omega) (by omega)⟩

set_option maxHeartbeats 1000000 in
theorem xtsalone_ac (a b bs : List (BitVec 8)) (s : BitVec 64) (ha : a.length = 32) (hb : b.length = 32) (hl : bs.length = 1024) :
    AC Try.prog 4 [.node [.u8s a, .u8s b], .u64 s, .u8s bs] 0 [] ⟨.bool true, [], []⟩ := by
  obtain ⟨k1, k2, E, A, B, hE, hA, hB, hEe, hn, c1, c2, c3⟩ := xalone_ex a b bs s ha hb hl
  refine ac_of tab mix Try.func4 rfl (by kernel_rfl) (by kernel_rfl) (by kernel_rfl) {} ?_
  repeat first | (refine EffG.mk (And.intro ?_ ?_); focus ((repeat' (first | exact trivial | refine And.intro ?_ ?_)) <;> (first | omega | (simp only [hasTy, okP, lenD, D.ren, D.isCell, Option.getD, List.length_set, List.length_take, List.length_drop, List.length_append, List.length_replicate, List.length_map, List.length_cons, List.length_nil, Option.map] <;> omega) | with_reducible assumption | with_reducible rfl | decide); done)) | (refine And.intro ?_ ?_; focus ((repeat' (first | exact trivial | refine And.intro ?_ ?_)) <;> (first | omega | (simp only [hasTy, okP, lenD, D.ren, D.isCell, Option.getD, List.length_set, List.length_take, List.length_drop, List.length_append, List.length_replicate, List.length_map, List.length_cons, List.length_nil, Option.map] <;> omega) | with_reducible assumption | with_reducible rfl | decide); done)) | refine chkG (by kernel_rfl) ?_
  refine callR hn [] (.ptr 2 []) [(2, some ⟨tX, .node [.ptr 3 [], .ptr 4 []], true⟩), (3, some ⟨tC, keysD k1, true⟩), (4, some ⟨tC, keysD k2, true⟩)] rfl rfl trivial rfl rfl rfl (congr (congrArg (fun d e => ([(2, some ⟨tX, .node [.ptr 3 [], .ptr 4 []], true⟩), (3, some ⟨tC, d, true⟩), (4, some ⟨tC, e, true⟩)] : Mem)) (ren_keysD _ k1)) (ren_keysD _ k2)) ?_
  repeat first | (refine EffG.mk (And.intro ?_ ?_); focus ((repeat' (first | exact trivial | refine And.intro ?_ ?_)) <;> (first | omega | (simp only [hasTy, okP, lenD, D.ren, D.isCell, Option.getD, List.length_set, List.length_take, List.length_drop, List.length_append, List.length_replicate, List.length_map, List.length_cons, List.length_nil, Option.map] <;> omega) | with_reducible assumption | with_reducible rfl | decide); done)) | (refine And.intro ?_ ?_; focus ((repeat' (first | exact trivial | refine And.intro ?_ ?_)) <;> (first | omega | (simp only [hasTy, okP, lenD, D.ren, D.isCell, Option.getD, List.length_set, List.length_take, List.length_drop, List.length_append, List.length_replicate, List.length_map, List.length_cons, List.length_nil, Option.map] <;> omega) | with_reducible assumption | with_reducible rfl | decide); done)) | refine chkG (by kernel_rfl) ?_
  refine callG c1 [2, 3, 4, 1] rfl rfl ⟨⟨_, rfl, rfl, rfl, id⟩, ⟨_, rfl, rfl, (ren_keysD _ k1).symm, id⟩, ⟨_, rfl, rfl, (ren_keysD _ k2).symm, id⟩, ⟨_, rfl, rfl, rfl, (fun _ => rfl)⟩, trivial⟩ rfl rfl ?_
  repeat first | (refine EffG.mk (And.intro ?_ ?_); focus ((repeat' (first | exact trivial | refine And.intro ?_ ?_)) <;> (first | omega | (simp only [hasTy, okP, lenD, D.ren, D.isCell, Option.getD, List.length_set, List.length_take, List.length_drop, List.length_append, List.length_replicate, List.length_map, List.length_cons, List.length_nil, Option.map] <;> omega) | with_reducible assumption | with_reducible rfl | decide); done)) | (refine And.intro ?_ ?_; focus ((repeat' (first | exact trivial | refine And.intro ?_ ?_)) <;> (first | omega | (simp only [hasTy, okP, lenD, D.ren, D.isCell, Option.getD, List.length_set, List.length_take, List.length_drop, List.length_append, List.length_replicate, List.length_map, List.length_cons, List.length_nil, Option.map] <;> omega) | with_reducible assumption | with_reducible rfl | decide); done)) | refine chkG (by kernel_rfl) ?_
  refine callG c2 [2, 3, 4, 1] rfl rfl ⟨⟨_, rfl, rfl, rfl, id⟩, ⟨_, rfl, rfl, (ren_keysD _ k1).symm, id⟩, ⟨_, rfl, rfl, (ren_keysD _ k2).symm, id⟩, ⟨_, rfl, rfl, rfl, (fun _ => rfl)⟩, trivial⟩ rfl rfl ?_
  repeat first | (refine EffG.mk (And.intro ?_ ?_); focus ((repeat' (first | exact trivial | refine And.intro ?_ ?_)) <;> (first | omega | (simp only [hasTy, okP, lenD, D.ren, D.isCell, Option.getD, List.length_set, List.length_take, List.length_drop, List.length_append, List.length_replicate, List.length_map, List.length_cons, List.length_nil, Option.map] <;> omega) | with_reducible assumption | with_reducible rfl | decide); done)) | (refine And.intro ?_ ?_; focus ((repeat' (first | exact trivial | refine And.intro ?_ ?_)) <;> (first | omega | (simp only [hasTy, okP, lenD, D.ren, D.isCell, Option.getD, List.length_set, List.length_take, List.length_drop, List.length_append, List.length_replicate, List.length_map, List.length_cons, List.length_nil, Option.map] <;> omega) | with_reducible assumption | with_reducible rfl | decide); done)) | refine chkG (by kernel_rfl) ?_
  refine callG c3 [2, 3, 4, 1] rfl rfl ⟨⟨_, rfl, rfl, rfl, id⟩, ⟨_, rfl, rfl, (ren_keysD _ k1).symm, id⟩, ⟨_, rfl, rfl, (ren_keysD _ k2).symm, id⟩, ⟨_, rfl, rfl, rfl, (fun _ => rfl)⟩, trivial⟩ rfl rfl ?_
  have hS : decide (List.take (512 * 2) (List.drop 0 E) = List.take (512 * 1) (List.drop 0 A) ++ List.take (512 * 1) (List.drop 0 B)) = true := by
    rw [List.drop_zero, List.drop_zero, List.drop_zero, List.take_of_length_le (by omega), List.take_of_length_le (by omega), List.take_of_length_le (by omega)]
    exact decide_eq_true hEe
  repeat first | (refine EffG.mk (And.intro ?_ ?_); focus ((repeat' (first | exact trivial | refine And.intro ?_ ?_)) <;> (first | omega | (simp only [hasTy, okP, lenD, D.ren, D.isCell, Option.getD, List.length_set, List.length_take, List.length_drop, List.length_append, List.length_replicate, List.length_map, List.length_cons, List.length_nil, Option.map] <;> omega) | with_reducible assumption | with_reducible rfl | decide); done)) | (refine And.intro ?_ ?_; focus ((repeat' (first | exact trivial | refine And.intro ?_ ?_)) <;> (first | omega | (simp only [hasTy, okP, lenD, D.ren, D.isCell, Option.getD, List.length_set, List.length_take, List.length_drop, List.length_append, List.length_replicate, List.length_map, List.length_cons, List.length_nil, Option.map] <;> omega) | with_reducible assumption | with_reducible rfl | decide); done)) | refine chkG (by kernel_rfl) ?_ | refine Br.yes rfl ?_ | refine Br.no rfl ?_
  refine Br.yes hS ?_
  repeat first | (refine EffG.mk (And.intro ?_ ?_); focus ((repeat' (first | exact trivial | refine And.intro ?_ ?_)) <;> (first | omega | (simp only [hasTy, okP, lenD, D.ren, D.isCell, Option.getD, List.length_set, List.length_take, List.length_drop, List.length_append, List.length_replicate, List.length_map, List.length_cons, List.length_nil, Option.map] <;> omega) | with_reducible assumption | with_reducible rfl | decide); done)) | (refine And.intro ?_ ?_; focus ((repeat' (first | exact trivial | refine And.intro ?_ ?_)) <;> (first | omega | (simp only [hasTy, okP, lenD, D.ren, D.isCell, Option.getD, List.length_set, List.length_take, List.length_drop, List.length_append, List.length_replicate, List.length_map, List.length_cons, List.length_nil, Option.map] <;> omega) | with_reducible assumption | with_reducible rfl | decide); done)) | refine chkG (by kernel_rfl) ?_ | refine Br.yes rfl ?_ | refine Br.no rfl ?_
  refine callG xawake_ac [] rfl rfl trivial rfl rfl ?_
  repeat first | (refine EffG.mk (And.intro ?_ ?_); focus ((repeat' (first | exact trivial | refine And.intro ?_ ?_)) <;> (first | omega | (simp only [hasTy, okP, lenD, D.ren, D.isCell, Option.getD, List.length_set, List.length_take, List.length_drop, List.length_append, List.length_replicate, List.length_map, List.length_cons, List.length_nil, Option.map] <;> omega) | with_reducible assumption | with_reducible rfl | decide); done)) | (refine And.intro ?_ ?_; focus ((repeat' (first | exact trivial | refine And.intro ?_ ?_)) <;> (first | omega | (simp only [hasTy, okP, lenD, D.ren, D.isCell, Option.getD, List.length_set, List.length_take, List.length_drop, List.length_append, List.length_replicate, List.length_map, List.length_cons, List.length_nil, Option.map] <;> omega) | with_reducible assumption | with_reducible rfl | decide); done)) | refine chkG (by kernel_rfl) ?_ | refine Br.yes rfl ?_ | refine Br.no rfl ?_
  refine retG [] rfl rfl trivial rfl
end Go.Proofs.Ytljkjdhkofbgmaa.Av
