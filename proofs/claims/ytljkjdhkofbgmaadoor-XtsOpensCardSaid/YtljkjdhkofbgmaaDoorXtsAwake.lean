import Derived.Test.YtljkjdhkofbgmaaDoorXtsC
namespace Go.Proofs.YtljkjdhkofbgmaaDoor.Av
open Go
set_option linter.all false
set_option maxRecDepth 3000

abbrev key0 : List (BitVec 8) := List.replicate 32 0
theorem zero_blk : (blkF (encF (schedF key0)) (twK (schedF key0) 0 0) (List.replicate 16 0)).getD 0 0 ≠ 0 := by decide +kernel

theorem rows_sched (key : List (BitVec 8)) (hk : key.length = 32) : Rows 15 16 (schedF key) := ⟨schedF_length key, schedF_lens key hk⟩

theorem xback_aux (k1 k2 : List (List (BitVec 8))) (bs : List (BitVec 8)) (o m : Nat) (s : BitVec 64) (hm : o + 512 * m ≤ bs.length) : ovI (decF k1) k2 (ovI (encF k1) k2 bs o s m) 0 s m = (bs.drop o).take (512 * m) :=
  ov_back (f := encF k1) (g := decF k1) (fun p hp => encI_length k1 p hp 14) (fun p hp => by unfold encF; exact dec_enc k1 p hp) k2 bs o m s hm
theorem xforth_aux (k1 k2 : List (List (BitVec 8))) (bs : List (BitVec 8)) (o m : Nat) (s : BitVec 64) (hm : o + 512 * m ≤ bs.length) : ovI (encF k1) k2 (ovI (decF k1) k2 bs o s m) 0 s m = (bs.drop o).take (512 * m) :=
  ov_back (f := decF k1) (g := encF k1) (fun p hp => by rw [decF, xorF_length, decI_length k1 p hp]) (fun p hp => by unfold encF; exact enc_dec k1 p hp) k2 bs o m s hm
theorem seal_length (k1 k2 : List (List (BitVec 8))) (bs : List (BitVec 8)) (o m : Nat) (s : BitVec 64) (hm : o + 512 * m ≤ bs.length) : (ovI (encF k1) k2 bs o s m).length = 512 * m :=
  ovI_length (fun p hp => encI_length k1 p hp 14) k2 s hm m (Nat.le_refl _)
theorem open_length (k1 k2 : List (List (BitVec 8))) (bs : List (BitVec 8)) (o m : Nat) (s : BitVec 64) (hm : o + 512 * m ≤ bs.length) : (ovI (decF k1) k2 bs o s m).length = 512 * m :=
  ovI_length (fun p hp => by rw [decF, xorF_length, decI_length k1 p hp]) k2 s hm m (Nat.le_refl _)

theorem ov_first (f : List (BitVec 8) → List (BitVec 8)) (hf : ∀ p, p.length = 16 → (f p).length = 16) (k2 : List (List (BitVec 8))) (z : List (BitVec 8)) (s : BitVec 64) (hl : z.length = 512) :
    chunk (ovI f k2 z 0 s 1) 0 = blkF f (twK k2 s 0) (chunk z 0) := by
  have h1 := catB_chunk (B := blkK f k2 z 0 s) (n := 32) (fun k hk => blkF_length hf (chunk_length (by omega))) 0 (by omega)
  have h2 := ovI_cat f k2 z 0 s 1
  rw [h2]
  exact h1
theorem zero_ne (z : List (BitVec 8)) (hz : z = List.replicate 512 0) (s : BitVec 64) (hs : s = 0) : ovI (encF (schedF key0)) (schedF key0) z 0 s 1 ≠ z := by
  have h4 := zero_blk
  have hl : z.length = 512 := by rw [hz, List.length_replicate]
  have hf : ∀ p : List (BitVec 8), p.length = 16 → (encF (schedF key0) p).length = 16 := fun p hp => encI_length _ p hp 14
  generalize schedF key0 = K at h4 hf ⊢
  have h1 := ov_first (encF K) hf K z s hl
  have h3 : chunk z 0 = List.replicate 16 0 := by
    rw [hz]; unfold chunk; rw [List.drop_replicate, List.take_replicate]; rfl
  intro h
  rw [h, h3, hs] at h1
  rw [← h1] at h4
  exact h4 rfl

theorem xawake_aux : ∃ (K : List (List (BitVec 8))) (z E : List (BitVec 8)) (s : BitVec 64), z = List.replicate 512 0 ∧ s = 0 ∧ z.length = 512 ∧ E.length = 512 ∧ E ≠ z ∧
    AC Tryd.prog 12 [.u8s key0, .u8s key0] 0 [] ⟨.ptr 0 [], [], [(tX, .node [.ptr 1 [], .ptr 2 []]), (tC, keysD K), (tC, keysD K)]⟩ ∧
    AC Tryd.prog 13 [.ptr 0 [], .u64 s, .slice 3 [] 0 (512 * 1) none] 4 (xMem K K (.row .cell) z) ⟨.tup [.slice 4 [] 0 (512 * 1) none, .i64 0], [], [(.row .cell, .u8s E)]⟩ ∧
    AC Tryd.prog 16 [.ptr 0 [], .u64 s, .slice 3 [] 0 (512 * 1) none] 4 (xMem K K (.row .cell) E) ⟨.tup [.slice 4 [] 0 (512 * 1) none, .i64 0], [], [(.row .cell, .u8s z)]⟩ := by
  have hr := rows_sched key0 List.length_replicate
  have hn := xnew_ac key0 key0 List.length_replicate List.length_replicate
  obtain ⟨z, hz⟩ : ∃ z : List (BitVec 8), z = List.replicate 512 0 := ⟨_, rfl⟩
  obtain ⟨s, hs⟩ : ∃ s : BitVec 64, s = 0 := ⟨_, rfl⟩
  have hl : z.length = 512 := by rw [hz, List.length_replicate]
  have hne := zero_ne z hz s hs
  generalize schedF key0 = K at hr hn hne
  have hE := seal_length K K z 0 1 s (by omega)
  have h1 := seal_ac (.row .cell) (.inl rfl) K K hr hr z 0 1 none s (by omega) (by omega) (by omega)
  have h2 := xopen_ac (.row .cell) (.inl rfl) K K hr hr (ovI (encF K) K z 0 s 1) 0 1 none s (by omega) (by omega) (by omega)
  rw [xback_aux K K z 0 1 s (by omega), List.drop_zero, List.take_of_length_le (by omega)] at h2
  exact ⟨K, z, _, s, hz, hs, hl, by omega, hne, hn, h1, h2⟩

theorem xawake_ac : AC Tryd.prog 11 [] 0 [] ⟨.bool true, [], []⟩ := by
  obtain ⟨K, z, E, s, hz, hs, hl, hEl, hne, hnew, hseal, hopen⟩ := xawake_aux
  have hs' : D.u64 (BitVec.ofNat 64 (Int.toNat 0)) = .u64 s := by rw [hs]; rfl
  have hzz : D.u8s (List.replicate 512 0) = .u8s z := by rw [hz]
  refine ac_of tab mix Tryd.func11 rfl (by kernel_rfl) (by kernel_rfl) (by kernel_rfl) {} ?_
  repeat first | (refine EffG.mk (And.intro ?_ ?_); focus ((repeat' (first | exact trivial | refine And.intro ?_ ?_)) <;> (first | omega | (simp only [hasTy, okP, lenD, D.ren, D.isCell, Option.getD, List.length_set, List.length_take, List.length_drop, List.length_append, List.length_replicate, List.length_map, List.length_cons, List.length_nil, Option.map] <;> omega) | with_reducible assumption | with_reducible rfl | decide); done)) | (refine And.intro ?_ ?_; focus ((repeat' (first | exact trivial | refine And.intro ?_ ?_)) <;> (first | omega | (simp only [hasTy, okP, lenD, D.ren, D.isCell, Option.getD, List.length_set, List.length_take, List.length_drop, List.length_append, List.length_replicate, List.length_map, List.length_cons, List.length_nil, Option.map] <;> omega) | with_reducible assumption | with_reducible rfl | decide); done)) | refine chkG (by kernel_rfl) ?_
  refine callR hnew [] (.ptr 0 []) [(0, some ⟨tX, .node [.ptr 1 [], .ptr 2 []], true⟩), (1, some ⟨tC, keysD K, true⟩), (2, some ⟨tC, keysD K, true⟩)] rfl rfl trivial rfl rfl rfl (congrArg (fun d => ([(0, some ⟨tX, .node [.ptr 1 [], .ptr 2 []], true⟩), (1, some ⟨tC, d, true⟩), (2, some ⟨tC, d, true⟩)] : Mem)) (ren_keysD _ K)) ?_
  repeat first | (refine EffG.mk (And.intro ?_ ?_); focus ((repeat' (first | exact trivial | refine And.intro ?_ ?_)) <;> (first | omega | (simp only [hasTy, okP, lenD, D.ren, D.isCell, Option.getD, List.length_set, List.length_take, List.length_drop, List.length_append, List.length_replicate, List.length_map, List.length_cons, List.length_nil, Option.map] <;> omega) | with_reducible assumption | with_reducible rfl | decide); done)) | (refine And.intro ?_ ?_; focus ((repeat' (first | exact trivial | refine And.intro ?_ ?_)) <;> (first | omega | (simp only [hasTy, okP, lenD, D.ren, D.isCell, Option.getD, List.length_set, List.length_take, List.length_drop, List.length_append, List.length_replicate, List.length_map, List.length_cons, List.length_nil, Option.map] <;> omega) | with_reducible assumption | with_reducible rfl | decide); done)) | refine chkG (by kernel_rfl) ?_
  refine callG hseal [0, 1, 2, 3] rfl (congrArg (fun d => [D.ptr 0 [], d, D.slice 3 [] 0 (512 * 1) none]) hs') ⟨⟨_, rfl, rfl, rfl, id⟩, ⟨_, rfl, rfl, (ren_keysD _ K).symm, id⟩, ⟨_, rfl, rfl, (ren_keysD _ K).symm, id⟩, ⟨_, rfl, rfl, hzz, (fun _ => rfl)⟩, trivial⟩ rfl rfl ?_
  repeat first | (refine EffG.mk (And.intro ?_ ?_); focus ((repeat' (first | exact trivial | refine And.intro ?_ ?_)) <;> (first | omega | (simp only [hasTy, okP, lenD, D.ren, D.isCell, Option.getD, List.length_set, List.length_take, List.length_drop, List.length_append, List.length_replicate, List.length_map, List.length_cons, List.length_nil, Option.map] <;> omega) | with_reducible assumption | with_reducible rfl | decide); done)) | (refine And.intro ?_ ?_; focus ((repeat' (first | exact trivial | refine And.intro ?_ ?_)) <;> (first | omega | (simp only [hasTy, okP, lenD, D.ren, D.isCell, Option.getD, List.length_set, List.length_take, List.length_drop, List.length_append, List.length_replicate, List.length_map, List.length_cons, List.length_nil, Option.map] <;> omega) | with_reducible assumption | with_reducible rfl | decide); done)) | refine chkG (by kernel_rfl) ?_
  refine callG hopen [0, 1, 2, 4] rfl (congrArg (fun d => [D.ptr 0 [], d, D.slice 4 [] 0 (512 * 1) none]) hs') ⟨⟨_, rfl, rfl, rfl, id⟩, ⟨_, rfl, rfl, (ren_keysD _ K).symm, id⟩, ⟨_, rfl, rfl, (ren_keysD _ K).symm, id⟩, ⟨_, rfl, rfl, rfl, (fun _ => rfl)⟩, trivial⟩ rfl rfl ?_
  have tE : List.take (512 * 1) (List.drop 0 E) = E := by rw [List.drop_zero, List.take_of_length_le (by omega)]
  have tz : List.take (512 * 1) (List.drop 0 z) = z := by rw [List.drop_zero, List.take_of_length_le (by omega)]
  have hneS : (!decide (List.take (512 * 1) (List.drop 0 E) = List.take (512 * 1) (List.drop 0 z))) = true := by
    rw [tE, tz, decide_eq_false hne]; rfl
  have heqS : decide (List.take (512 * 1) (List.drop 0 z) = List.take (512 * 1) (List.drop 0 (List.replicate 512 0))) = true := by
    rw [← hz]; exact decide_eq_true rfl
  repeat first | (refine EffG.mk (And.intro ?_ ?_); focus ((repeat' (first | exact trivial | refine And.intro ?_ ?_)) <;> (first | omega | (simp only [hasTy, okP, lenD, D.ren, D.isCell, Option.getD, List.length_set, List.length_take, List.length_drop, List.length_append, List.length_replicate, List.length_map, List.length_cons, List.length_nil, Option.map] <;> omega) | with_reducible assumption | with_reducible rfl | decide); done)) | (refine And.intro ?_ ?_; focus ((repeat' (first | exact trivial | refine And.intro ?_ ?_)) <;> (first | omega | (simp only [hasTy, okP, lenD, D.ren, D.isCell, Option.getD, List.length_set, List.length_take, List.length_drop, List.length_append, List.length_replicate, List.length_map, List.length_cons, List.length_nil, Option.map] <;> omega) | with_reducible assumption | with_reducible rfl | decide); done)) | refine chkG (by kernel_rfl) ?_ | refine Br.yes rfl ?_ | refine Br.no rfl ?_
  refine Br.yes hneS ?_
  repeat first | (refine EffG.mk (And.intro ?_ ?_); focus ((repeat' (first | exact trivial | refine And.intro ?_ ?_)) <;> (first | omega | (simp only [hasTy, okP, lenD, D.ren, D.isCell, Option.getD, List.length_set, List.length_take, List.length_drop, List.length_append, List.length_replicate, List.length_map, List.length_cons, List.length_nil, Option.map] <;> omega) | with_reducible assumption | with_reducible rfl | decide); done)) | (refine And.intro ?_ ?_; focus ((repeat' (first | exact trivial | refine And.intro ?_ ?_)) <;> (first | omega | (simp only [hasTy, okP, lenD, D.ren, D.isCell, Option.getD, List.length_set, List.length_take, List.length_drop, List.length_append, List.length_replicate, List.length_map, List.length_cons, List.length_nil, Option.map] <;> omega) | with_reducible assumption | with_reducible rfl | decide); done)) | refine chkG (by kernel_rfl) ?_ | refine Br.yes rfl ?_ | refine Br.no rfl ?_
  refine Br.yes heqS ?_
  repeat first | (refine EffG.mk (And.intro ?_ ?_); focus ((repeat' (first | exact trivial | refine And.intro ?_ ?_)) <;> (first | omega | (simp only [hasTy, okP, lenD, D.ren, D.isCell, Option.getD, List.length_set, List.length_take, List.length_drop, List.length_append, List.length_replicate, List.length_map, List.length_cons, List.length_nil, Option.map] <;> omega) | with_reducible assumption | with_reducible rfl | decide); done)) | (refine And.intro ?_ ?_; focus ((repeat' (first | exact trivial | refine And.intro ?_ ?_)) <;> (first | omega | (simp only [hasTy, okP, lenD, D.ren, D.isCell, Option.getD, List.length_set, List.length_take, List.length_drop, List.length_append, List.length_replicate, List.length_map, List.length_cons, List.length_nil, Option.map] <;> omega) | with_reducible assumption | with_reducible rfl | decide); done)) | refine chkG (by kernel_rfl) ?_ | refine Br.yes rfl ?_ | refine Br.no rfl ?_
  refine retG [] rfl rfl trivial rfl
end Go.Proofs.YtljkjdhkofbgmaaDoor.Av
