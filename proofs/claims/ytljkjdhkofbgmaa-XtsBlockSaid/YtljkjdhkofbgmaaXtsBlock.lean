import Derived.Test.YtljkjdhkofbgmaaXtsAwake
namespace Go.Proofs.Ytljkjdhkofbgmaa.Av
open Go
set_option linter.all false

/-! a block between its tweaks -/
theorem xorI_getD (s k : List (BitVec 8)) : ∀ n x, n ≤ s.length → x < n → (xorI s k n).getD x 0 = s.getD x 0 ^^^ k.getD x 0
  | 0, x, _, hx => by omega
  | n + 1, x, hn, hx => by
    rw [xorI, getD_set (by rw [xorI_length]; omega)]
    split
    · next h =>
      subst h
      exact congrArg (· ^^^ k.getD x 0) (xorI_rest s k x x (by omega) (Nat.le_refl _))
    · exact xorI_getD s k n x (by omega) (by omega)
where
  xorI_rest (s k : List (BitVec 8)) : ∀ n x, n ≤ s.length → n ≤ x → (xorI s k n).getD x 0 = s.getD x 0
    | 0, x, _, _ => rfl
    | n + 1, x, hn, hx => by
      rw [xorI, getD_set (by rw [xorI_length]; omega), if_neg (by omega)]
      exact xorI_rest s k n x (by omega) (by omega)
theorem chunk_getD (l : List (BitVec 8)) (o j : Nat) (hj : j < 16) : (chunk l o).getD j 0 = l.getD (o + j) 0 := by
  unfold chunk; rw [getD_take hj, getD_drop]

/-- what a loop lays that goes through a block -/
def pbI (b t : List (BitVec 8)) (o : Nat) : Nat → List (BitVec 8)
  | 0 => List.replicate 16 0
  | j + 1 => (pbI b t o j).set j (b.getD (o + j) 0 ^^^ t.getD j 0)
theorem pbI_length (b t : List (BitVec 8)) (o : Nat) : ∀ j, (pbI b t o j).length = 16
  | 0 => rfl
  | j + 1 => by rw [pbI, List.length_set, pbI_length b t o j]
theorem pbI_getD (b t : List (BitVec 8)) (o : Nat) : ∀ n x, n ≤ 16 → x < n → (pbI b t o n).getD x 0 = b.getD (o + x) 0 ^^^ t.getD x 0
  | 0, x, _, hx => by omega
  | n + 1, x, hn, hx => by
    rw [pbI, getD_set (by rw [pbI_length]; omega)]
    split
    · next h => subst h; rfl
    · exact pbI_getD b t o n x (by omega) (by omega)
theorem ext_getD {l r : List (BitVec 8)} (h : l.length = r.length) (h2 : ∀ x, x < l.length → l.getD x 0 = r.getD x 0) : l = r := by
  refine List.ext_getElem h fun i hi hj => ?_
  have := h2 i hi
  rwa [List.getD_eq_getElem?_getD, List.getD_eq_getElem?_getD, List.getElem?_eq_getElem hi, List.getElem?_eq_getElem hj] at this
theorem pbI_xor (b t : List (BitVec 8)) (o : Nat) (h : o + 16 ≤ b.length) : pbI b t o 16 = xorF (chunk b o) t := by
  have hl := chunk_length h
  refine ext_getD (by rw [pbI_length, xorF_length, hl]) fun x hx => ?_
  rw [pbI_length] at hx
  rw [pbI_getD b t o 16 x (Nat.le_refl _) hx, xorF, xorI_getD _ _ 16 x (by omega) hx, chunk_getD _ _ _ hx]

def nI (s : BitVec 64) : Nat → List (BitVec 8)
  | 0 => List.replicate 16 0
  | n + 1 => (nI s n).set n ((s >>> (8 * n)).setWidth 8)
theorem nI_length (s : BitVec 64) : ∀ n, (nI s n).length = 16
  | 0 => rfl
  | n + 1 => by rw [nI, List.length_set, nI_length s n]
theorem nI_fir (s : BitVec 64) : ∀ n, firI s n = (nI s n, s >>> (8 * n))
  | 0 => by
    rw [show s >>> (8 * 0) = s from by simp]
    rfl
  | n + 1 => by
    rw [firI, nI_fir s n, nI]
    show (_, s >>> (8 * n) >>> 8) = _
    rw [← BitVec.shiftRight_add]
    rfl

abbrev t512 : Ty := .arr 512 .cell
theorem xblock_ex (a b bs : List (BitVec 8)) (s : BitVec 64) (ha : a.length = 32) (hb : b.length = 32) (hl : bs.length = 512) :
    ∃ (k1 k2 : List (List (BitVec 8))) (E : List (BitVec 8)), Rows 15 16 k1 ∧ Rows 15 16 k2 ∧ E.length = 512 ∧ 
    (∀ i, i < 2 → ∀ x, x < 16 → E.getD (16 * i + x) 0 = (encF k1 (pbI bs (twN (encI k2 (nI s 8) 14) i) (16 * i) 16)).getD x 0 ^^^ (twN (encI k2 (nI s 8) 14) i).getD x 0) ∧
    AC Try.prog 10 [.u8s a] 0 [] ⟨.ptr 0 [], [], [(tC, keysD k1)]⟩ ∧
    AC Try.prog 10 [.u8s b] 0 [] ⟨.ptr 0 [], [], [(tC, keysD k2)]⟩ ∧
    AC Try.prog 6 [.u8s a, .u8s b] 0 [] ⟨.ptr 0 [], [], [(tX, .node [.ptr 1 [], .ptr 2 []]), (tC, keysD k1), (tC, keysD k2)]⟩ ∧
    AC Try.prog 7 [.ptr 0 [], .u64 s, .slice 3 [] 0 (512 * 1) (some 512)] 4 (xMem k1 k2 t512 bs) ⟨.tup [.slice 4 [] 0 (512 * 1) none, .i64 0], [], [(.row .cell, .u8s E)]⟩ := by
  have h1 := rows_sched a ha
  have h2 := rows_sched b hb
  have hn := xnew_ac a b ha hb
  have n1 := new_ac a ha
  have n2 := new_ac b hb
  generalize schedF a = k1 at h1 hn n1
  generalize schedF b = k2 at h2 hn n2
  have hE := seal_length k1 k2 bs 0 1 s (by omega)
  have hk : ∀ p : List (BitVec 8), p.length = 16 → (encF k1 p).length = 16 := fun p hp => encI_length k1 p hp 14
  have hch := catB_chunk (B := blkK (encF k1) k2 bs 0 s) (n := 32) (fun k hk' => blkF_length hk (chunk_length (by omega)))
  have hcat := ovI_cat (encF k1) k2 bs 0 s 1
  refine ⟨k1, k2, _, h1, h2, hE, ?_, n1, n2, hn, seal_ac t512 (.inr ⟨512, rfl⟩) k1 k2 h1 h2 bs 0 1 (some 512) s (by omega) (by omega) (by omega)⟩
  intro i hi x hx
  have e := hch i (by omega)
  rw [show (32 : Nat) = 32 * 1 from rfl, ← hcat] at e
  rw [← chunk_getD _ _ _ hx, e]
  have et : twK k2 s i = twN (encI k2 (nI s 8) 14) i := by
    unfold twK
    rw [show i / 32 = 0 by omega, show i % 32 = i by omega, show s + BitVec.ofNat 64 0 = s from BitVec.add_zero _]
    unfold firF
    rw [nI_fir]
  unfold blkK blkF
  rw [et, pbI_xor _ _ _ (by omega), Nat.zero_add]
  have hp : (xorF (chunk bs (16 * i)) (twN (encI k2 (nI s 8) 14) i)).length = 16 := by rw [xorF_length, chunk_length (by omega)]
  generalize xorF (chunk bs (16 * i)) (twN (encI k2 (nI s 8) 14) i) = p at hp ⊢
  exact xorI_getD _ _ 16 x (by rw [hk p hp]; exact Nat.le_refl _) hx

set_option maxHeartbeats 1000000 in
theorem xtsblock_ac (a b bs : List (BitVec 8)) (s : BitVec 64) (ha : a.length = 32) (hb : b.length = 32) (hl : bs.length = 512) :
    AC Try.prog 5 [.node [.u8s a, .u8s b], .u64 s, .u8s bs] 0 [] ⟨.bool true, [], []⟩ := by
  obtain ⟨k1, k2, E, hr1, hr2, hE, hEe, hn1, hn2, hn, hs⟩ := xblock_ex a b bs s ha hb hl
  refine ac_of tab mix Try.func5 rfl (by kernel_rfl) (by kernel_rfl) (by kernel_rfl) {} ?_
  repeat first | (refine EffG.mk (And.intro ?_ ?_); focus ((repeat' (first | exact trivial | refine And.intro ?_ ?_)) <;> (first | omega | (simp only [hasTy, okP, lenD, D.ren, D.isCell, Option.getD, List.length_set, List.length_take, List.length_drop, List.length_append, List.length_replicate, List.length_map, List.length_cons, List.length_nil, Option.map] <;> omega) | with_reducible assumption | with_reducible rfl | decide); done)) | (refine And.intro ?_ ?_; focus ((repeat' (first | exact trivial | refine And.intro ?_ ?_)) <;> (first | omega | (simp only [hasTy, okP, lenD, D.ren, D.isCell, Option.getD, List.length_set, List.length_take, List.length_drop, List.length_append, List.length_replicate, List.length_map, List.length_cons, List.length_nil, Option.map] <;> omega) | with_reducible assumption | with_reducible rfl | decide); done)) | refine chkG (by kernel_rfl) ?_
  refine loopG Nat (fun n => [(1, .u64 s), (3, .ptr 0 []), (5, .ptr 1 []), (7, .ptr 2 []), (8, .i64 n)])
    (fun n => [(0, some ⟨.arr 2 t32, .node [.u8s a, .u8s b], true⟩), (1, some ⟨t512, .u8s bs, true⟩), (2, some ⟨t16, .u8s (nI s n), true⟩)]) 3
    (fun n => n ≤ 8) (fun n => 8 - n) 0 [0, 1, 2] (Nat.zero_le _) ?_ ?_
  · exact viewG rfl ⟨rfl, rfl, rfl, rfl, rfl, trivial⟩ ⟨⟨_, rfl, rfl, rfl, id⟩, ⟨_, rfl, rfl, rfl, id⟩, ⟨_, rfl, rfl, rfl, id⟩, trivial⟩ rfl
  intro n hn'
  have hnl := nI_length s n
  repeat first | (refine EffG.mk (And.intro ?_ ?_); focus ((repeat' (first | exact trivial | refine And.intro ?_ ?_)) <;> (first | omega | (simp only [hasTy, okP, lenD, D.ren, D.isCell, Option.getD, List.length_set, List.length_take, List.length_drop, List.length_append, List.length_replicate, List.length_map, List.length_cons, List.length_nil, Option.map] <;> omega) | with_reducible assumption | with_reducible rfl | decide); done)) | (refine And.intro ?_ ?_; focus ((repeat' (first | exact trivial | refine And.intro ?_ ?_)) <;> (first | omega | (simp only [hasTy, okP, lenD, D.ren, D.isCell, Option.getD, List.length_set, List.length_take, List.length_drop, List.length_append, List.length_replicate, List.length_map, List.length_cons, List.length_nil, Option.map] <;> omega) | with_reducible assumption | with_reducible rfl | decide); done)) | refine chkG (by kernel_rfl) ?_
  refine Br.split (fun h => ?_) (fun h => ?_)
  · have hn' : n < 8 := by have := of_decide_eq_true h; omega
    have e : (BitVec.ofInt 64 (8 * (n : Int))).toNat = 8 * n := by
      rw [show (8 * (n : Int)) = ((8 * n : Nat) : Int) by omega, BitVec.ofInt_natCast, BitVec.toNat_ofNat]; omega
    repeat first | rw [e] | (refine EffG.mk (And.intro ?_ ?_); focus ((repeat' (first | exact trivial | refine And.intro ?_ ?_)) <;> (first | omega | (simp only [hasTy, okP, lenD, D.ren, D.isCell, Option.getD, List.length_set, List.length_take, List.length_drop, List.length_append, List.length_replicate, List.length_map, List.length_cons, List.length_nil, Option.map] <;> omega) | with_reducible assumption | with_reducible rfl | decide); done)) | (refine And.intro ?_ ?_; focus ((repeat' (first | exact trivial | refine And.intro ?_ ?_)) <;> (first | omega | (simp only [hasTy, okP, lenD, D.ren, D.isCell, Option.getD, List.length_set, List.length_take, List.length_drop, List.length_append, List.length_replicate, List.length_map, List.length_cons, List.length_nil, Option.map] <;> omega) | with_reducible assumption | with_reducible rfl | decide); done)) | refine chkG (by kernel_rfl) ?_
    refine nextG (n + 1) [0, 1, 2] ?_ ?_ ?_
    · omega
    · omega
    · exact viewG rfl ⟨rfl, rfl, rfl, rfl, rfl, trivial⟩ ⟨⟨_, rfl, rfl, rfl, id⟩, ⟨_, rfl, rfl, rfl, id⟩, ⟨_, rfl, rfl, rfl, id⟩, trivial⟩ rfl
  · have hn8 : n = 8 := by have := of_decide_eq_false h; omega
    subst hn8
    have he2 := fun p hp => encrypt_ac k2 p hp hr2.1 hr2.2
    have he := he2 _ hnl
    have hel := encI_length k2 _ hnl 14
    generalize encI k2 (nI s 8) 14 = x at he hel hEe ⊢
    generalize nI s 8 = y at he hnl ⊢
    repeat first | (refine EffG.mk (And.intro ?_ ?_); focus ((repeat' (first | exact trivial | refine And.intro ?_ ?_)) <;> (first | omega | (simp only [hasTy, okP, lenD, D.ren, D.isCell, Option.getD, List.length_set, List.length_take, List.length_drop, List.length_append, List.length_replicate, List.length_map, List.length_cons, List.length_nil, Option.map] <;> omega) | with_reducible assumption | with_reducible rfl | decide); done)) | (refine And.intro ?_ ?_; focus ((repeat' (first | exact trivial | refine And.intro ?_ ?_)) <;> (first | omega | (simp only [hasTy, okP, lenD, D.ren, D.isCell, Option.getD, List.length_set, List.length_take, List.length_drop, List.length_append, List.length_replicate, List.length_map, List.length_cons, List.length_nil, Option.map] <;> omega) | with_reducible assumption | with_reducible rfl | decide); done)) | refine chkG (by kernel_rfl) ?_
    refine callR hn1 [] (.ptr 3 []) [(3, some ⟨tC, keysD k1, true⟩)] rfl rfl trivial rfl rfl rfl (congrArg (fun d => ([(3, some ⟨tC, d, true⟩)] : Mem)) (ren_keysD _ k1)) ?_
    repeat first | (refine EffG.mk (And.intro ?_ ?_); focus ((repeat' (first | exact trivial | refine And.intro ?_ ?_)) <;> (first | omega | (simp only [hasTy, okP, lenD, D.ren, D.isCell, Option.getD, List.length_set, List.length_take, List.length_drop, List.length_append, List.length_replicate, List.length_map, List.length_cons, List.length_nil, Option.map] <;> omega) | with_reducible assumption | with_reducible rfl | decide); done)) | (refine And.intro ?_ ?_; focus ((repeat' (first | exact trivial | refine And.intro ?_ ?_)) <;> (first | omega | (simp only [hasTy, okP, lenD, D.ren, D.isCell, Option.getD, List.length_set, List.length_take, List.length_drop, List.length_append, List.length_replicate, List.length_map, List.length_cons, List.length_nil, Option.map] <;> omega) | with_reducible assumption | with_reducible rfl | decide); done)) | refine chkG (by kernel_rfl) ?_
    refine callR hn2 [] (.ptr 4 []) [(4, some ⟨tC, keysD k2, true⟩)] rfl rfl trivial rfl rfl rfl (congrArg (fun d => ([(4, some ⟨tC, d, true⟩)] : Mem)) (ren_keysD _ k2)) ?_
    repeat first | (refine EffG.mk (And.intro ?_ ?_); focus ((repeat' (first | exact trivial | refine And.intro ?_ ?_)) <;> (first | omega | (simp only [hasTy, okP, lenD, D.ren, D.isCell, Option.getD, List.length_set, List.length_take, List.length_drop, List.length_append, List.length_replicate, List.length_map, List.length_cons, List.length_nil, Option.map] <;> omega) | with_reducible assumption | with_reducible rfl | decide); done)) | (refine And.intro ?_ ?_; focus ((repeat' (first | exact trivial | refine And.intro ?_ ?_)) <;> (first | omega | (simp only [hasTy, okP, lenD, D.ren, D.isCell, Option.getD, List.length_set, List.length_take, List.length_drop, List.length_append, List.length_replicate, List.length_map, List.length_cons, List.length_nil, Option.map] <;> omega) | with_reducible assumption | with_reducible rfl | decide); done)) | refine chkG (by kernel_rfl) ?_
    refine callR hn [] (.ptr 5 []) [(5, some ⟨tX, .node [.ptr 6 [], .ptr 7 []], true⟩), (6, some ⟨tC, keysD k1, true⟩), (7, some ⟨tC, keysD k2, true⟩)] rfl rfl trivial rfl rfl rfl (congr (congrArg (fun d e => ([(5, some ⟨tX, .node [.ptr 6 [], .ptr 7 []], true⟩), (6, some ⟨tC, d, true⟩), (7, some ⟨tC, e, true⟩)] : Mem)) (ren_keysD _ k1)) (ren_keysD _ k2)) ?_
    repeat first | (refine EffG.mk (And.intro ?_ ?_); focus ((repeat' (first | exact trivial | refine And.intro ?_ ?_)) <;> (first | omega | (simp only [hasTy, okP, lenD, D.ren, D.isCell, Option.getD, List.length_set, List.length_take, List.length_drop, List.length_append, List.length_replicate, List.length_map, List.length_cons, List.length_nil, Option.map] <;> omega) | with_reducible assumption | with_reducible rfl | decide); done)) | (refine And.intro ?_ ?_; focus ((repeat' (first | exact trivial | refine And.intro ?_ ?_)) <;> (first | omega | (simp only [hasTy, okP, lenD, D.ren, D.isCell, Option.getD, List.length_set, List.length_take, List.length_drop, List.length_append, List.length_replicate, List.length_map, List.length_cons, List.length_nil, Option.map] <;> omega) | with_reducible assumption | with_reducible rfl | decide); done)) | refine chkG (by kernel_rfl) ?_
    refine callG hs [5, 6, 7, 1] rfl rfl ⟨⟨_, rfl, rfl, rfl, id⟩, ⟨_, rfl, rfl, (ren_keysD _ k1).symm, id⟩, ⟨_, rfl, rfl, (ren_keysD _ k2).symm, id⟩, ⟨_, rfl, rfl, rfl, (fun _ => rfl)⟩, trivial⟩ rfl rfl ?_
    repeat first | (refine EffG.mk (And.intro ?_ ?_); focus ((repeat' (first | exact trivial | refine And.intro ?_ ?_)) <;> (first | omega | (simp only [hasTy, okP, lenD, D.ren, D.isCell, Option.getD, List.length_set, List.length_take, List.length_drop, List.length_append, List.length_replicate, List.length_map, List.length_cons, List.length_nil, Option.map] <;> omega) | with_reducible assumption | with_reducible rfl | decide); done)) | (refine And.intro ?_ ?_; focus ((repeat' (first | exact trivial | refine And.intro ?_ ?_)) <;> (first | omega | (simp only [hasTy, okP, lenD, D.ren, D.isCell, Option.getD, List.length_set, List.length_take, List.length_drop, List.length_append, List.length_replicate, List.length_map, List.length_cons, List.length_nil, Option.map] <;> omega) | with_reducible assumption | with_reducible rfl | decide); done)) | refine chkG (by kernel_rfl) ?_ | refine Br.yes rfl ?_ | refine Br.no rfl ?_
    refine callG he [4] rfl rfl ⟨⟨_, rfl, rfl, (ren_keysD _ k2).symm, id⟩, trivial⟩ rfl rfl ?_
    repeat first | (refine EffG.mk (And.intro ?_ ?_); focus ((repeat' (first | exact trivial | refine And.intro ?_ ?_)) <;> (first | omega | (simp only [hasTy, okP, lenD, D.ren, D.isCell, Option.getD, List.length_set, List.length_take, List.length_drop, List.length_append, List.length_replicate, List.length_map, List.length_cons, List.length_nil, Option.map] <;> omega) | with_reducible assumption | with_reducible rfl | decide); done)) | (refine And.intro ?_ ?_; focus ((repeat' (first | exact trivial | refine And.intro ?_ ?_)) <;> (first | omega | (simp only [hasTy, okP, lenD, D.ren, D.isCell, Option.getD, List.length_set, List.length_take, List.length_drop, List.length_append, List.length_replicate, List.length_map, List.length_cons, List.length_nil, Option.map] <;> omega) | with_reducible assumption | with_reducible rfl | decide); done)) | refine chkG (by kernel_rfl) ?_
    refine loopG Nat (fun i => [(5, .ptr 1 []), (9, .ptr 3 []), (11, .slice 8 [] 0 (512 * 1) none), (13, .ptr 9 []), (14, .i64 i)])
      (fun i => [(1, some ⟨t512, .u8s bs, true⟩), (3, some ⟨tC, keysD k1, true⟩), (8, some ⟨.row .cell, .u8s E, true⟩), (9, some ⟨t16, .u8s (twN x i), true⟩)]) 10
      (fun i => i ≤ 2) (fun i => 2 - i) 0 [0, 1, 2, 3, 4, 5, 6, 7, 8, 9] (Nat.zero_le _) ?_ ?_
    · exact viewG rfl ⟨rfl, rfl, rfl, rfl, rfl, trivial⟩ ⟨⟨_, rfl, rfl, rfl, id⟩, ⟨_, rfl, rfl, (ren_keysD _ k1).symm, id⟩, ⟨_, rfl, rfl, rfl, id⟩, ⟨_, rfl, rfl, rfl, id⟩, trivial⟩ rfl
    intro i hi
    repeat first | (refine EffG.mk (And.intro ?_ ?_); focus ((repeat' (first | exact trivial | refine And.intro ?_ ?_)) <;> (first | omega | (simp only [hasTy, okP, lenD, D.ren, D.isCell, Option.getD, List.length_set, List.length_take, List.length_drop, List.length_append, List.length_replicate, List.length_map, List.length_cons, List.length_nil, Option.map] <;> omega) | with_reducible assumption | with_reducible rfl | decide); done)) | (refine And.intro ?_ ?_; focus ((repeat' (first | exact trivial | refine And.intro ?_ ?_)) <;> (first | omega | (simp only [hasTy, okP, lenD, D.ren, D.isCell, Option.getD, List.length_set, List.length_take, List.length_drop, List.length_append, List.length_replicate, List.length_map, List.length_cons, List.length_nil, Option.map] <;> omega) | with_reducible assumption | with_reducible rfl | decide); done)) | refine chkG (by kernel_rfl) ?_
    refine Br.split (fun h => ?_) (fun h => ?_)
    · have hi : i < 2 := by have := of_decide_eq_true h; omega
      have hEi := hEe i hi
      have htl := twN_length x i
      rw [hel] at htl
      have ht1 : twN x (i + 1) = twF (twN x i) := rfl
      have htwl := twF_length (twN x i)
      generalize twN x i = t at hEi htl ht1 htwl ⊢
      rw [htl] at htwl
      repeat first | (refine EffG.mk (And.intro ?_ ?_); focus ((repeat' (first | exact trivial | refine And.intro ?_ ?_)) <;> (first | omega | (simp only [hasTy, okP, lenD, D.ren, D.isCell, Option.getD, List.length_set, List.length_take, List.length_drop, List.length_append, List.length_replicate, List.length_map, List.length_cons, List.length_nil, Option.map] <;> omega) | with_reducible assumption | with_reducible rfl | decide); done)) | (refine And.intro ?_ ?_; focus ((repeat' (first | exact trivial | refine And.intro ?_ ?_)) <;> (first | omega | (simp only [hasTy, okP, lenD, D.ren, D.isCell, Option.getD, List.length_set, List.length_take, List.length_drop, List.length_append, List.length_replicate, List.length_map, List.length_cons, List.length_nil, Option.map] <;> omega) | with_reducible assumption | with_reducible rfl | decide); done)) | refine chkG (by kernel_rfl) ?_
      refine loopG Nat (fun j => [(5, .ptr 1 []), (9, .ptr 3 []), (11, .slice 8 [] 0 (512 * 1) none), (13, .ptr 9 []), (14, .i64 i), (15, .ptr 10 []), (16, .i64 j)])
        (fun j => [(1, some ⟨t512, .u8s bs, true⟩), (3, some ⟨tC, keysD k1, true⟩), (8, some ⟨.row .cell, .u8s E, true⟩), (9, some ⟨t16, .u8s t, true⟩), (10, some ⟨t16, .u8s (pbI bs t (16 * i) j), true⟩)]) 11
        (fun j => j ≤ 16) (fun j => 16 - j) 0 [0, 1, 2, 3, 4, 5, 6, 7, 8, 9, 10] (Nat.zero_le _) ?_ ?_
      · exact viewG rfl ⟨rfl, rfl, rfl, rfl, rfl, rfl, rfl, trivial⟩ ⟨⟨_, rfl, rfl, rfl, id⟩, ⟨_, rfl, rfl, (ren_keysD _ k1).symm, id⟩, ⟨_, rfl, rfl, rfl, id⟩, ⟨_, rfl, rfl, rfl, id⟩, ⟨_, rfl, rfl, rfl, id⟩, trivial⟩ rfl
      intro j hj
      have hpl := pbI_length bs t (16 * i) j
      repeat first | (refine EffG.mk (And.intro ?_ ?_); focus ((repeat' (first | exact trivial | refine And.intro ?_ ?_)) <;> (first | omega | (simp only [hasTy, okP, lenD, D.ren, D.isCell, Option.getD, List.length_set, List.length_take, List.length_drop, List.length_append, List.length_replicate, List.length_map, List.length_cons, List.length_nil, Option.map] <;> omega) | with_reducible assumption | with_reducible rfl | decide); done)) | (refine And.intro ?_ ?_; focus ((repeat' (first | exact trivial | refine And.intro ?_ ?_)) <;> (first | omega | (simp only [hasTy, okP, lenD, D.ren, D.isCell, Option.getD, List.length_set, List.length_take, List.length_drop, List.length_append, List.length_replicate, List.length_map, List.length_cons, List.length_nil, Option.map] <;> omega) | with_reducible assumption | with_reducible rfl | decide); done)) | refine chkG (by kernel_rfl) ?_
      refine Br.split (fun h => ?_) (fun h => ?_)
      · have hj : j < 16 := by have := of_decide_eq_true h; omega
        repeat first | (refine EffG.mk (And.intro ?_ ?_); focus ((repeat' (first | exact trivial | refine And.intro ?_ ?_)) <;> (first | omega | (simp only [hasTy, okP, lenD, D.ren, D.isCell, Option.getD, List.length_set, List.length_take, List.length_drop, List.length_append, List.length_replicate, List.length_map, List.length_cons, List.length_nil, Option.map] <;> omega) | with_reducible assumption | with_reducible rfl | decide); done)) | (refine And.intro ?_ ?_; focus ((repeat' (first | exact trivial | refine And.intro ?_ ?_)) <;> (first | omega | (simp only [hasTy, okP, lenD, D.ren, D.isCell, Option.getD, List.length_set, List.length_take, List.length_drop, List.length_append, List.length_replicate, List.length_map, List.length_cons, List.length_nil, Option.map] <;> omega) | with_reducible assumption | with_reducible rfl | decide); done)) | refine chkG (by kernel_rfl) ?_
        refine nextG (j + 1) [0, 1, 2, 3, 4, 5, 6, 7, 8, 9, 10] ?_ ?_ ?_
        · omega
        · omega
        · exact viewG rfl ⟨rfl, rfl, rfl, rfl, rfl, rfl, rfl, trivial⟩ ⟨⟨_, rfl, rfl, rfl, id⟩, ⟨_, rfl, rfl, (ren_keysD _ k1).symm, id⟩, ⟨_, rfl, rfl, rfl, id⟩, ⟨_, rfl, rfl, rfl, id⟩, ⟨_, rfl, rfl, rfl, id⟩, trivial⟩ rfl
      · have hj16 : j = 16 := by have := of_decide_eq_false h; omega
        subst hj16
        have hq := encrypt_ac k1 _ hpl hr1.1 hr1.2
        have hql := encI_length k1 _ hpl 14
        have hqe : encF k1 (pbI bs t (16 * i) 16) = encI k1 (pbI bs t (16 * i) 16) 14 := rfl
        rw [hqe] at hEi
        generalize encI k1 (pbI bs t (16 * i) 16) 14 = q at hq hql hEi
        generalize pbI bs t (16 * i) 16 = p at hpl hq ⊢
        repeat first | (refine EffG.mk (And.intro ?_ ?_); focus ((repeat' (first | exact trivial | refine And.intro ?_ ?_)) <;> (first | omega | (simp only [hasTy, okP, lenD, D.ren, D.isCell, Option.getD, List.length_set, List.length_take, List.length_drop, List.length_append, List.length_replicate, List.length_map, List.length_cons, List.length_nil, Option.map] <;> omega) | with_reducible assumption | with_reducible rfl | decide); done)) | (refine And.intro ?_ ?_; focus ((repeat' (first | exact trivial | refine And.intro ?_ ?_)) <;> (first | omega | (simp only [hasTy, okP, lenD, D.ren, D.isCell, Option.getD, List.length_set, List.length_take, List.length_drop, List.length_append, List.length_replicate, List.length_map, List.length_cons, List.length_nil, Option.map] <;> omega) | with_reducible assumption | with_reducible rfl | decide); done)) | refine chkG (by kernel_rfl) ?_
        refine callG hq [3] rfl rfl ⟨⟨_, rfl, rfl, (ren_keysD _ k1).symm, id⟩, trivial⟩ rfl rfl ?_
        repeat first | (refine EffG.mk (And.intro ?_ ?_); focus ((repeat' (first | exact trivial | refine And.intro ?_ ?_)) <;> (first | omega | (simp only [hasTy, okP, lenD, D.ren, D.isCell, Option.getD, List.length_set, List.length_take, List.length_drop, List.length_append, List.length_replicate, List.length_map, List.length_cons, List.length_nil, Option.map] <;> omega) | with_reducible assumption | with_reducible rfl | decide); done)) | (refine And.intro ?_ ?_; focus ((repeat' (first | exact trivial | refine And.intro ?_ ?_)) <;> (first | omega | (simp only [hasTy, okP, lenD, D.ren, D.isCell, Option.getD, List.length_set, List.length_take, List.length_drop, List.length_append, List.length_replicate, List.length_map, List.length_cons, List.length_nil, Option.map] <;> omega) | with_reducible assumption | with_reducible rfl | decide); done)) | refine chkG (by kernel_rfl) ?_
        refine loopG Nat (fun j => [(5, .ptr 1 []), (9, .ptr 3 []), (11, .slice 8 [] 0 (512 * 1) none), (13, .ptr 9 []), (14, .i64 i), (15, .ptr 10 []), (17, .i64 j)])
          (fun j => [(1, some ⟨t512, .u8s bs, true⟩), (3, some ⟨tC, keysD k1, true⟩), (8, some ⟨.row .cell, .u8s E, true⟩), (9, some ⟨t16, .u8s t, true⟩), (10, some ⟨t16, .u8s q, true⟩)]) 11
          (fun j => j ≤ 16) (fun j => 16 - j) 0 [0, 1, 2, 3, 4, 5, 6, 7, 8, 9, 10] (Nat.zero_le _) ?_ ?_
        · exact viewG rfl ⟨rfl, rfl, rfl, rfl, rfl, rfl, rfl, trivial⟩ ⟨⟨_, rfl, rfl, rfl, id⟩, ⟨_, rfl, rfl, (ren_keysD _ k1).symm, id⟩, ⟨_, rfl, rfl, rfl, id⟩, ⟨_, rfl, rfl, rfl, id⟩, ⟨_, rfl, rfl, rfl, id⟩, trivial⟩ rfl
        intro j hj
        repeat first | (refine EffG.mk (And.intro ?_ ?_); focus ((repeat' (first | exact trivial | refine And.intro ?_ ?_)) <;> (first | omega | (simp only [hasTy, okP, lenD, D.ren, D.isCell, Option.getD, List.length_set, List.length_take, List.length_drop, List.length_append, List.length_replicate, List.length_map, List.length_cons, List.length_nil, Option.map] <;> omega) | with_reducible assumption | with_reducible rfl | decide); done)) | (refine And.intro ?_ ?_; focus ((repeat' (first | exact trivial | refine And.intro ?_ ?_)) <;> (first | omega | (simp only [hasTy, okP, lenD, D.ren, D.isCell, Option.getD, List.length_set, List.length_take, List.length_drop, List.length_append, List.length_replicate, List.length_map, List.length_cons, List.length_nil, Option.map] <;> omega) | with_reducible assumption | with_reducible rfl | decide); done)) | refine chkG (by kernel_rfl) ?_
        refine Br.split (fun h => ?_) (fun h => ?_)
        · have hj : j < 16 := by have := of_decide_eq_true h; omega
          have hEj := hEi j hj
          repeat first | (refine EffG.mk (And.intro ?_ ?_); focus ((repeat' (first | exact trivial | refine And.intro ?_ ?_)) <;> (first | omega | (simp only [hasTy, okP, lenD, D.ren, D.isCell, Option.getD, List.length_set, List.length_take, List.length_drop, List.length_append, List.length_replicate, List.length_map, List.length_cons, List.length_nil, Option.map] <;> omega) | with_reducible assumption | with_reducible rfl | decide); done)) | (refine And.intro ?_ ?_; focus ((repeat' (first | exact trivial | refine And.intro ?_ ?_)) <;> (first | omega | (simp only [hasTy, okP, lenD, D.ren, D.isCell, Option.getD, List.length_set, List.length_take, List.length_drop, List.length_append, List.length_replicate, List.length_map, List.length_cons, List.length_nil, Option.map] <;> omega) | with_reducible assumption | with_reducible rfl | decide); done)) | refine chkG (by kernel_rfl) ?_
          refine Br.no ?_ ?_
          · show (!decide (E.getD (0 + (16 * (i : Int) + (j : Int)).toNat) 0 = q.getD j 0 ^^^ t.getD j 0)) = false
            rw [show 0 + (16 * (i : Int) + (j : Int)).toNat = 16 * i + j by omega, hEj, decide_eq_true rfl]
            rfl
          repeat first | (refine EffG.mk (And.intro ?_ ?_); focus ((repeat' (first | exact trivial | refine And.intro ?_ ?_)) <;> (first | omega | (simp only [hasTy, okP, lenD, D.ren, D.isCell, Option.getD, List.length_set, List.length_take, List.length_drop, List.length_append, List.length_replicate, List.length_map, List.length_cons, List.length_nil, Option.map] <;> omega) | with_reducible assumption | with_reducible rfl | decide); done)) | (refine And.intro ?_ ?_; focus ((repeat' (first | exact trivial | refine And.intro ?_ ?_)) <;> (first | omega | (simp only [hasTy, okP, lenD, D.ren, D.isCell, Option.getD, List.length_set, List.length_take, List.length_drop, List.length_append, List.length_replicate, List.length_map, List.length_cons, List.length_nil, Option.map] <;> omega) | with_reducible assumption | with_reducible rfl | decide); done)) | refine chkG (by kernel_rfl) ?_
          refine nextG (j + 1) [0, 1, 2, 3, 4, 5, 6, 7, 8, 9, 10] ?_ ?_ ?_
          · omega
          · omega
          · exact viewG rfl ⟨rfl, rfl, rfl, rfl, rfl, rfl, rfl, trivial⟩ ⟨⟨_, rfl, rfl, rfl, id⟩, ⟨_, rfl, rfl, (ren_keysD _ k1).symm, id⟩, ⟨_, rfl, rfl, rfl, id⟩, ⟨_, rfl, rfl, rfl, id⟩, ⟨_, rfl, rfl, rfl, id⟩, trivial⟩ rfl
        · have hj16 : j = 16 := by have := of_decide_eq_false h; omega
          subst hj16
          repeat first | (refine EffG.mk (And.intro ?_ ?_); focus ((repeat' (first | exact trivial | refine And.intro ?_ ?_)) <;> (first | omega | (simp only [hasTy, okP, lenD, D.ren, D.isCell, Option.getD, List.length_set, List.length_take, List.length_drop, List.length_append, List.length_replicate, List.length_map, List.length_cons, List.length_nil, Option.map] <;> omega) | with_reducible assumption | with_reducible rfl | decide); done)) | (refine And.intro ?_ ?_; focus ((repeat' (first | exact trivial | refine And.intro ?_ ?_)) <;> (first | omega | (simp only [hasTy, okP, lenD, D.ren, D.isCell, Option.getD, List.length_set, List.length_take, List.length_drop, List.length_append, List.length_replicate, List.length_map, List.length_cons, List.length_nil, Option.map] <;> omega) | with_reducible assumption | with_reducible rfl | decide); done)) | refine chkG (by kernel_rfl) ?_
          refine callG (twice37_ac t htl) [] rfl rfl trivial rfl rfl ?_
          repeat first | (refine EffG.mk (And.intro ?_ ?_); focus ((repeat' (first | exact trivial | refine And.intro ?_ ?_)) <;> (first | omega | (simp only [hasTy, okP, lenD, D.ren, D.isCell, Option.getD, List.length_set, List.length_take, List.length_drop, List.length_append, List.length_replicate, List.length_map, List.length_cons, List.length_nil, Option.map] <;> omega) | with_reducible assumption | with_reducible rfl | decide); done)) | (refine And.intro ?_ ?_; focus ((repeat' (first | exact trivial | refine And.intro ?_ ?_)) <;> (first | omega | (simp only [hasTy, okP, lenD, D.ren, D.isCell, Option.getD, List.length_set, List.length_take, List.length_drop, List.length_append, List.length_replicate, List.length_map, List.length_cons, List.length_nil, Option.map] <;> omega) | with_reducible assumption | with_reducible rfl | decide); done)) | refine chkG (by kernel_rfl) ?_
          refine nextG (i + 1) [0, 1, 2, 3, 4, 5, 6, 7, 8, 9] ?_ ?_ ?_
          · omega
          · omega
          · exact viewG rfl ⟨rfl, rfl, rfl, rfl, rfl, trivial⟩ ⟨⟨_, rfl, rfl, rfl, id⟩, ⟨_, rfl, rfl, (ren_keysD _ k1).symm, id⟩, ⟨_, rfl, rfl, rfl, id⟩, ⟨_, rfl, rfl, congrArg D.u8s ht1.symm, id⟩, trivial⟩ rfl
    · have hi2 : i = 2 := by have := of_decide_eq_false h; omega
      subst hi2
      repeat first | (refine EffG.mk (And.intro ?_ ?_); focus ((repeat' (first | exact trivial | refine And.intro ?_ ?_)) <;> (first | omega | (simp only [hasTy, okP, lenD, D.ren, D.isCell, Option.getD, List.length_set, List.length_take, List.length_drop, List.length_append, List.length_replicate, List.length_map, List.length_cons, List.length_nil, Option.map] <;> omega) | with_reducible assumption | with_reducible rfl | decide); done)) | (refine And.intro ?_ ?_; focus ((repeat' (first | exact trivial | refine And.intro ?_ ?_)) <;> (first | omega | (simp only [hasTy, okP, lenD, D.ren, D.isCell, Option.getD, List.length_set, List.length_take, List.length_drop, List.length_append, List.length_replicate, List.length_map, List.length_cons, List.length_nil, Option.map] <;> omega) | with_reducible assumption | with_reducible rfl | decide); done)) | refine chkG (by kernel_rfl) ?_
      refine callG xawake_ac [] rfl rfl trivial rfl rfl ?_
      repeat first | (refine EffG.mk (And.intro ?_ ?_); focus ((repeat' (first | exact trivial | refine And.intro ?_ ?_)) <;> (first | omega | (simp only [hasTy, okP, lenD, D.ren, D.isCell, Option.getD, List.length_set, List.length_take, List.length_drop, List.length_append, List.length_replicate, List.length_map, List.length_cons, List.length_nil, Option.map] <;> omega) | with_reducible assumption | with_reducible rfl | decide); done)) | (refine And.intro ?_ ?_; focus ((repeat' (first | exact trivial | refine And.intro ?_ ?_)) <;> (first | omega | (simp only [hasTy, okP, lenD, D.ren, D.isCell, Option.getD, List.length_set, List.length_take, List.length_drop, List.length_append, List.length_replicate, List.length_map, List.length_cons, List.length_nil, Option.map] <;> omega) | with_reducible assumption | with_reducible rfl | decide); done)) | refine chkG (by kernel_rfl) ?_ | refine Br.yes rfl ?_ | refine Br.no rfl ?_
      refine retG [] rfl rfl trivial rfl
end Go.Proofs.Ytljkjdhkofbgmaa.Av
