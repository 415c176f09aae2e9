import Derived.Test.YtljkjdhkofbgmaaDoorXts
namespace Go.Proofs.YtljkjdhkofbgmaaDoor.Av
open Go
set_option linter.all false
set_option maxRecDepth 3000

/-! sectors, one after the other -/
def blkF (f : List (BitVec 8) → List (BitVec 8)) (t p : List (BitVec 8)) : List (BitVec 8) := xorF (f (xorF p t)) t
/-- the blocks of a sector that begins at o -/
def secI (f : List (BitVec 8) → List (BitVec 8)) (bs : List (BitVec 8)) (o : Nat) (out t : List (BitVec 8)) : Nat → List (BitVec 8) × List (BitVec 8)
  | 0 => (out, t)
  | i + 1 => ((secI f bs o out t i).1 ++ blkF f (secI f bs o out t i).2 ((bs.drop (o + 16 * i)).take 16), twF (secI f bs o out t i).2)
/-- sectors from o on, the first one of number s -/
def ovI (f : List (BitVec 8) → List (BitVec 8)) (k2 : List (List (BitVec 8))) (bs : List (BitVec 8)) (o : Nat) (s : BitVec 64) : Nat → List (BitVec 8)
  | 0 => []
  | j + 1 => (secI f bs (o + 512 * j) (ovI f k2 bs o s j) (encI k2 (firF (s + BitVec.ofNat 64 j)) 14) 32).1

theorem blkF_length {f : List (BitVec 8) → List (BitVec 8)} (hf : ∀ p, p.length = 16 → (f p).length = 16) {t p : List (BitVec 8)} (hp : p.length = 16) : (blkF f t p).length = 16 := by
  rw [blkF, xorF_length, hf _ (by rw [xorF_length, hp])]
theorem secI_length {f : List (BitVec 8) → List (BitVec 8)} (hf : ∀ p, p.length = 16 → (f p).length = 16) {bs : List (BitVec 8)} {o : Nat} {out t : List (BitVec 8)} (ht : t.length = 16) (ho : o + 512 ≤ bs.length) :
    ∀ i, i ≤ 32 → (secI f bs o out t i).1.length = out.length + 16 * i ∧ (secI f bs o out t i).2.length = 16
  | 0, _ => ⟨rfl, ht⟩
  | i + 1, hi => by
    obtain ⟨h1, h2⟩ := secI_length (out := out) hf ht ho i (by omega)
    rw [secI]
    refine ⟨?_, ?_⟩
    · rw [List.length_append, h1, blkF_length hf (by rw [List.length_take, List.length_drop]; omega)]; omega
    · show (twF _).length = 16
      rw [twF_length, h2]
theorem firF_length (s : BitVec 64) : (firF s).length = 16 := firI_length s 8
theorem ovI_length {f : List (BitVec 8) → List (BitVec 8)} (hf : ∀ p, p.length = 16 → (f p).length = 16) (k2 : List (List (BitVec 8))) {bs : List (BitVec 8)} {o : Nat} (s : BitVec 64) {m : Nat} (hm : o + 512 * m ≤ bs.length) :
    ∀ j, j ≤ m → (ovI f k2 bs o s j).length = 512 * j
  | 0, _ => rfl
  | j + 1, hj => by
    rw [ovI, (secI_length hf (encI_length k2 _ (firF_length _) 14) (by omega) 32 (Nat.le_refl _)).1, ovI_length hf k2 s hm j (by omega)]; omega

def capI : Option Nat → Nat → Option Nat
  | c, 0 => c
  | c, j + 1 => (capI c j).map (· - 512)

theorem slice_eq {b a a' l l' : Nat} {c c' : Option Nat} (h1 : a = a') (h2 : l = l') (h3 : c = c') : some (D.slice b [] a l c) = some (D.slice b [] a' l' c') := by rw [h1, h2, h3]

set_option maxHeartbeats 4000000 in
theorem over_ac (T : Ty) (hT : T = .row .cell ∨ ∃ n, T = .arr n .cell) (g : Nat) (f : List (BitVec 8) → List (BitVec 8)) (k1 k2 : List (List (BitVec 8))) (h2 : Rows 15 16 k2)
    (hg : ∀ p, p.length = 16 → AC Tryd.prog g [.ptr 0 [], .u8s p] 1 [(0, some ⟨tC, keysD k1, true⟩)] ⟨.u8s (f p), [], []⟩) (hf : ∀ p, p.length = 16 → (f p).length = 16)
    (bs : List (BitVec 8)) (o m : Nat) (cap : Option Nat) (s : BitVec 64) (hm : o + 512 * m ≤ bs.length) (hm2 : m ≤ 128) (hbl : bs.length < 9223372036854775808) :
    AC Tryd.prog 26 [.ptr 0 [], .u64 s, .slice 3 [] o (512 * m) cap, .fn g [.ptr 1 []] []] 4
      [(0, some ⟨tX, .node [.ptr 1 [], .ptr 2 []], true⟩), (1, some ⟨tC, keysD k1, true⟩), (2, some ⟨tC, keysD k2, true⟩), (3, some ⟨T, .u8s bs, false⟩)]
      ⟨.tup [.slice 4 [] 0 (512 * m) none, .i64 0], [], [(.row .cell, .u8s (ovI f k2 bs o s m))]⟩ := by
  have hrem : Int.tmod ((512 * m : Nat) : Int) 512 = 0 := by
    rw [show Int.tmod ((512 * m : Nat) : Int) 512 = ((512 * m % 512 : Nat) : Int) from (Int.ofNat_tmod (512 * m) 512).symm]
    omega
  rcases hT with rfl | ⟨n, rfl⟩
  · refine ac_of tab mix Tryd.func26 rfl (by kernel_rfl) (by kernel_rfl) (by kernel_rfl) {} ?_
    repeat first | rw [hrem] | (refine EffG.mk (And.intro ?_ ?_); focus ((repeat' (first | exact trivial | refine And.intro ?_ ?_)) <;> (first | omega | (simp only [hasTy, okP, lenD, D.ren, D.isCell, Option.getD, List.length_set, List.length_take, List.length_drop, List.length_append, List.length_replicate, List.length_map, List.length_cons, List.length_nil, Option.map] <;> omega) | with_reducible assumption | with_reducible rfl | decide); done)) | (refine And.intro ?_ ?_; focus ((repeat' (first | exact trivial | refine And.intro ?_ ?_)) <;> (first | omega | (simp only [hasTy, okP, lenD, D.ren, D.isCell, Option.getD, List.length_set, List.length_take, List.length_drop, List.length_append, List.length_replicate, List.length_map, List.length_cons, List.length_nil, Option.map] <;> omega) | with_reducible assumption | with_reducible rfl | decide); done)) | refine chkG (by kernel_rfl) ?_
    refine Br.no rfl ?_
    repeat first | (refine EffG.mk (And.intro ?_ ?_); focus ((repeat' (first | exact trivial | refine And.intro ?_ ?_)) <;> (first | omega | (simp only [hasTy, okP, lenD, D.ren, D.isCell, Option.getD, List.length_set, List.length_take, List.length_drop, List.length_append, List.length_replicate, List.length_map, List.length_cons, List.length_nil, Option.map] <;> omega) | with_reducible assumption | with_reducible rfl | decide); done)) | (refine And.intro ?_ ?_; focus ((repeat' (first | exact trivial | refine And.intro ?_ ?_)) <;> (first | omega | (simp only [hasTy, okP, lenD, D.ren, D.isCell, Option.getD, List.length_set, List.length_take, List.length_drop, List.length_append, List.length_replicate, List.length_map, List.length_cons, List.length_nil, Option.map] <;> omega) | with_reducible assumption | with_reducible rfl | decide); done)) | refine chkG (by kernel_rfl) ?_
    refine Br.no rfl ?_
    repeat first | (refine EffG.mk (And.intro ?_ ?_); focus ((repeat' (first | exact trivial | refine And.intro ?_ ?_)) <;> (first | omega | (simp only [hasTy, okP, lenD, D.ren, D.isCell, Option.getD, List.length_set, List.length_take, List.length_drop, List.length_append, List.length_replicate, List.length_map, List.length_cons, List.length_nil, Option.map] <;> omega) | with_reducible assumption | with_reducible rfl | decide); done)) | (refine And.intro ?_ ?_; focus ((repeat' (first | exact trivial | refine And.intro ?_ ?_)) <;> (first | omega | (simp only [hasTy, okP, lenD, D.ren, D.isCell, Option.getD, List.length_set, List.length_take, List.length_drop, List.length_append, List.length_replicate, List.length_map, List.length_cons, List.length_nil, Option.map] <;> omega) | with_reducible assumption | with_reducible rfl | decide); done)) | refine chkG (by kernel_rfl) ?_
    refine Br.no rfl ?_
    repeat first | (refine EffG.mk (And.intro ?_ ?_); focus ((repeat' (first | exact trivial | refine And.intro ?_ ?_)) <;> (first | omega | (simp only [hasTy, okP, lenD, D.ren, D.isCell, Option.getD, List.length_set, List.length_take, List.length_drop, List.length_append, List.length_replicate, List.length_map, List.length_cons, List.length_nil, Option.map] <;> omega) | with_reducible assumption | with_reducible rfl | decide); done)) | (refine And.intro ?_ ?_; focus ((repeat' (first | exact trivial | refine And.intro ?_ ?_)) <;> (first | omega | (simp only [hasTy, okP, lenD, D.ren, D.isCell, Option.getD, List.length_set, List.length_take, List.length_drop, List.length_append, List.length_replicate, List.length_map, List.length_cons, List.length_nil, Option.map] <;> omega) | with_reducible assumption | with_reducible rfl | decide); done)) | refine chkG (by kernel_rfl) ?_
    refine Br.no (decide_eq_false (by omega)) ?_
    repeat first | (refine EffG.mk (And.intro ?_ ?_); focus ((repeat' (first | exact trivial | refine And.intro ?_ ?_)) <;> (first | omega | (simp only [hasTy, okP, lenD, D.ren, D.isCell, Option.getD, List.length_set, List.length_take, List.length_drop, List.length_append, List.length_replicate, List.length_map, List.length_cons, List.length_nil, Option.map] <;> omega) | with_reducible assumption | with_reducible rfl | decide); done)) | (refine And.intro ?_ ?_; focus ((repeat' (first | exact trivial | refine And.intro ?_ ?_)) <;> (first | omega | (simp only [hasTy, okP, lenD, D.ren, D.isCell, Option.getD, List.length_set, List.length_take, List.length_drop, List.length_append, List.length_replicate, List.length_map, List.length_cons, List.length_nil, Option.map] <;> omega) | with_reducible assumption | with_reducible rfl | decide); done)) | refine chkG (by kernel_rfl) ?_
    refine loopG Nat (fun j => [(0, .ptr 0 []), (1, .u64 (s + BitVec.ofNat 64 j)), (2, .slice 3 [] (o + 512 * j) (512 * m - 512 * j) (capI cap j)), (3, .fn g [.ptr 1 []] []), (10, .slice 4 [] 0 (512 * j) none)])
      (fun j => [(0, some ⟨tX, .node [.ptr 1 [], .ptr 2 []], true⟩), (1, some ⟨tC, keysD k1, true⟩), (2, some ⟨tC, keysD k2, true⟩), (3, some ⟨.row .cell, .u8s bs, false⟩), (4, some ⟨.row .cell, .u8s (ovI f k2 bs o s j), true⟩)]) 5
      (fun j => j ≤ m) (fun j => m - j) 0 [0, 1, 2, 3, 4] (Nat.zero_le _) ?_ ?_
    · refine viewG rfl ⟨rfl, congrArg (fun x => some (D.u64 x)) (BitVec.add_zero s).symm, rfl, rfl, rfl, trivial⟩ ⟨⟨_, rfl, rfl, rfl, id⟩, ⟨_, rfl, rfl, (ren_keysD _ k1).symm, id⟩, ⟨_, rfl, rfl, (ren_keysD _ k2).symm, id⟩, ⟨_, rfl, rfl, rfl, id⟩, ⟨_, rfl, rfl, rfl, id⟩, trivial⟩ rfl
    intro j hj
    have hl := ovI_length hf k2 s hm j hj
    repeat first | (refine EffG.mk (And.intro ?_ ?_); focus ((repeat' (first | exact trivial | refine And.intro ?_ ?_)) <;> (first | omega | (simp only [hasTy, okP, lenD, D.ren, D.isCell, Option.getD, List.length_set, List.length_take, List.length_drop, List.length_append, List.length_replicate, List.length_map, List.length_cons, List.length_nil, Option.map] <;> omega) | with_reducible assumption | with_reducible rfl | decide); done)) | (refine And.intro ?_ ?_; focus ((repeat' (first | exact trivial | refine And.intro ?_ ?_)) <;> (first | omega | (simp only [hasTy, okP, lenD, D.ren, D.isCell, Option.getD, List.length_set, List.length_take, List.length_drop, List.length_append, List.length_replicate, List.length_map, List.length_cons, List.length_nil, Option.map] <;> omega) | with_reducible assumption | with_reducible rfl | decide); done)) | refine chkG (by kernel_rfl) ?_
    refine Br.split (fun h => ?_) (fun h => ?_)
    · have hj : j < m := by have := of_decide_eq_true h; omega
      have hc : ovI f k2 bs o s (j + 1) = (secI f bs (o + 512 * j) (ovI f k2 bs o s j) (encI k2 (firF (s + BitVec.ofNat 64 j)) 14) 32).1 := rfl
      generalize ovI f k2 bs o s j = out at hl hc ⊢
      have hfa := first_ac k2 (s + BitVec.ofNat 64 j) h2
      have htl := encI_length k2 _ (firF_length (s + BitVec.ofNat 64 j)) 14
      generalize encI k2 (firF (s + BitVec.ofNat 64 j)) 14 = t at hc hfa htl
      repeat first | (refine EffG.mk (And.intro ?_ ?_); focus ((repeat' (first | exact trivial | refine And.intro ?_ ?_)) <;> (first | omega | (simp only [hasTy, okP, lenD, D.ren, D.isCell, Option.getD, List.length_set, List.length_take, List.length_drop, List.length_append, List.length_replicate, List.length_map, List.length_cons, List.length_nil, Option.map] <;> omega) | with_reducible assumption | with_reducible rfl | decide); done)) | (refine And.intro ?_ ?_; focus ((repeat' (first | exact trivial | refine And.intro ?_ ?_)) <;> (first | omega | (simp only [hasTy, okP, lenD, D.ren, D.isCell, Option.getD, List.length_set, List.length_take, List.length_drop, List.length_append, List.length_replicate, List.length_map, List.length_cons, List.length_nil, Option.map] <;> omega) | with_reducible assumption | with_reducible rfl | decide); done)) | refine chkG (by kernel_rfl) ?_
      refine callG hfa [0, 1, 2] rfl rfl ⟨⟨_, rfl, rfl, rfl, id⟩, ⟨_, rfl, rfl, (ren_keysD _ k2).symm, id⟩, trivial⟩ rfl rfl ?_
      repeat first | (refine EffG.mk (And.intro ?_ ?_); focus ((repeat' (first | exact trivial | refine And.intro ?_ ?_)) <;> (first | omega | (simp only [hasTy, okP, lenD, D.ren, D.isCell, Option.getD, List.length_set, List.length_take, List.length_drop, List.length_append, List.length_replicate, List.length_map, List.length_cons, List.length_nil, Option.map] <;> omega) | with_reducible assumption | with_reducible rfl | decide); done)) | (refine And.intro ?_ ?_; focus ((repeat' (first | exact trivial | refine And.intro ?_ ?_)) <;> (first | omega | (simp only [hasTy, okP, lenD, D.ren, D.isCell, Option.getD, List.length_set, List.length_take, List.length_drop, List.length_append, List.length_replicate, List.length_map, List.length_cons, List.length_nil, Option.map] <;> omega) | with_reducible assumption | with_reducible rfl | decide); done)) | refine chkG (by kernel_rfl) ?_
      have hu : s + BitVec.ofNat 64 j + BitVec.ofNat 64 (Int.toNat 1) = s + BitVec.ofNat 64 (j + 1) := by
        rw [BitVec.add_assoc, ← BitVec.ofNat_add]; rfl
      refine loopG Nat (fun i => [(0, .ptr 0 []), (1, .u64 (s + BitVec.ofNat 64 (j + 1))), (2, .slice 3 [] (o + 512 * j) (512 * m - 512 * j) (capI cap j)), (3, .fn g [.ptr 1 []] []), (10, .slice 4 [] 0 (512 * j + 16 * i) none), (11, .ptr 5 []),
          (12, .slice 3 [] (o + 512 * j + 16 * i) (512 - 16 * i) (some (512 - 16 * i)))])
        (fun i => [(0, some ⟨tX, .node [.ptr 1 [], .ptr 2 []], true⟩), (1, some ⟨tC, keysD k1, true⟩), (2, some ⟨tC, keysD k2, true⟩), (3, some ⟨.row .cell, .u8s bs, false⟩), (4, some ⟨.row .cell, .u8s (secI f bs (o + 512 * j) out t i).1, true⟩),
          (5, some ⟨t16, .u8s (secI f bs (o + 512 * j) out t i).2, true⟩)]) 6 (fun i => i ≤ 32) (fun i => 32 - i) 0 [0, 1, 2, 3, 4, 5] (Nat.zero_le _) ?_ ?_
      · refine viewG rfl ⟨rfl, congrArg (fun x => some (D.u64 x)) hu, rfl, rfl, rfl, rfl, slice_eq rfl rfl rfl, trivial⟩ ⟨⟨_, rfl, rfl, rfl, id⟩, ⟨_, rfl, rfl, (ren_keysD _ k1).symm, id⟩, ⟨_, rfl, rfl, (ren_keysD _ k2).symm, id⟩, ⟨_, rfl, rfl, rfl, id⟩, ⟨_, rfl, rfl, rfl, id⟩, ⟨_, rfl, rfl, rfl, id⟩, trivial⟩ rfl
      intro i hi
      obtain ⟨s1, s2⟩ := secI_length (out := out) hf htl (show o + 512 * j + 512 ≤ bs.length by omega) i hi
      rw [hl] at s1
      repeat first | (refine EffG.mk (And.intro ?_ ?_); focus ((repeat' (first | exact trivial | refine And.intro ?_ ?_)) <;> (first | omega | (simp only [hasTy, okP, lenD, D.ren, D.isCell, Option.getD, List.length_set, List.length_take, List.length_drop, List.length_append, List.length_replicate, List.length_map, List.length_cons, List.length_nil, Option.map] <;> omega) | with_reducible assumption | with_reducible rfl | decide); done)) | (refine And.intro ?_ ?_; focus ((repeat' (first | exact trivial | refine And.intro ?_ ?_)) <;> (first | omega | (simp only [hasTy, okP, lenD, D.ren, D.isCell, Option.getD, List.length_set, List.length_take, List.length_drop, List.length_append, List.length_replicate, List.length_map, List.length_cons, List.length_nil, Option.map] <;> omega) | with_reducible assumption | with_reducible rfl | decide); done)) | refine chkG (by kernel_rfl) ?_
      refine Br.split (fun h => ?_) (fun h => ?_)
      · have hi : i < 32 := by have := of_decide_eq_true h; omega
        have hs1 : (secI f bs (o + 512 * j) out t (i + 1)).1 = (secI f bs (o + 512 * j) out t i).1 ++ blkF f (secI f bs (o + 512 * j) out t i).2 ((bs.drop (o + 512 * j + 16 * i)).take 16) := rfl
        have hs2 : (secI f bs (o + 512 * j) out t (i + 1)).2 = twF (secI f bs (o + 512 * j) out t i).2 := rfl
        have hp : ((bs.drop (o + 512 * j + 16 * i)).take 16).length = 16 := by rw [List.length_take, List.length_drop]; omega
        generalize (secI f bs (o + 512 * j) out t i).1 = O at s1 hs1 ⊢
        generalize (secI f bs (o + 512 * j) out t i).2 = w at s2 hs1 hs2 ⊢
        have hq : (xorF ((bs.drop (o + 512 * j + 16 * i)).take 16) w).length = 16 := by rw [xorF_length, hp]
        have hfq := hf _ hq
        have hbl2 : (xorF (f (xorF ((bs.drop (o + 512 * j + 16 * i)).take 16) w)) w).length = 16 := by rw [xorF_length, hfq]
        have hwl := twF_length w
        rw [s2] at hwl
        repeat first | (refine EffG.mk (And.intro ?_ ?_); focus ((repeat' (first | exact trivial | refine And.intro ?_ ?_)) <;> (first | omega | (simp only [hasTy, okP, lenD, D.ren, D.isCell, Option.getD, List.length_set, List.length_take, List.length_drop, List.length_append, List.length_replicate, List.length_map, List.length_cons, List.length_nil, Option.map] <;> omega) | with_reducible assumption | with_reducible rfl | decide); done)) | (refine And.intro ?_ ?_; focus ((repeat' (first | exact trivial | refine And.intro ?_ ?_)) <;> (first | omega | (simp only [hasTy, okP, lenD, D.ren, D.isCell, Option.getD, List.length_set, List.length_take, List.length_drop, List.length_append, List.length_replicate, List.length_map, List.length_cons, List.length_nil, Option.map] <;> omega) | with_reducible assumption | with_reducible rfl | decide); done)) | refine chkG (by kernel_rfl) ?_
        refine callG (xxor_ac ((bs.drop (o + 512 * j + 16 * i)).take 16) w hp s2) [] rfl rfl trivial rfl rfl ?_
        repeat first | (refine EffG.mk (And.intro ?_ ?_); focus ((repeat' (first | exact trivial | refine And.intro ?_ ?_)) <;> (first | omega | (simp only [hasTy, okP, lenD, D.ren, D.isCell, Option.getD, List.length_set, List.length_take, List.length_drop, List.length_append, List.length_replicate, List.length_map, List.length_cons, List.length_nil, Option.map] <;> omega) | with_reducible assumption | with_reducible rfl | decide); done)) | (refine And.intro ?_ ?_; focus ((repeat' (first | exact trivial | refine And.intro ?_ ?_)) <;> (first | omega | (simp only [hasTy, okP, lenD, D.ren, D.isCell, Option.getD, List.length_set, List.length_take, List.length_drop, List.length_append, List.length_replicate, List.length_map, List.length_cons, List.length_nil, Option.map] <;> omega) | with_reducible assumption | with_reducible rfl | decide); done)) | refine chkG (by kernel_rfl) ?_
        refine callG (hg _ hq) [1] rfl rfl ⟨⟨_, rfl, rfl, (ren_keysD _ k1).symm, id⟩, trivial⟩ rfl rfl ?_
        repeat first | (refine EffG.mk (And.intro ?_ ?_); focus ((repeat' (first | exact trivial | refine And.intro ?_ ?_)) <;> (first | omega | (simp only [hasTy, okP, lenD, D.ren, D.isCell, Option.getD, List.length_set, List.length_take, List.length_drop, List.length_append, List.length_replicate, List.length_map, List.length_cons, List.length_nil, Option.map] <;> omega) | with_reducible assumption | with_reducible rfl | decide); done)) | (refine And.intro ?_ ?_; focus ((repeat' (first | exact trivial | refine And.intro ?_ ?_)) <;> (first | omega | (simp only [hasTy, okP, lenD, D.ren, D.isCell, Option.getD, List.length_set, List.length_take, List.length_drop, List.length_append, List.length_replicate, List.length_map, List.length_cons, List.length_nil, Option.map] <;> omega) | with_reducible assumption | with_reducible rfl | decide); done)) | refine chkG (by kernel_rfl) ?_
        refine callG (xxor_ac _ w hfq s2) [] rfl rfl trivial rfl rfl ?_
        repeat first | (refine EffG.mk (And.intro ?_ ?_); focus ((repeat' (first | exact trivial | refine And.intro ?_ ?_)) <;> (first | omega | (simp only [hasTy, okP, lenD, D.ren, D.isCell, Option.getD, List.length_set, List.length_take, List.length_drop, List.length_append, List.length_replicate, List.length_map, List.length_cons, List.length_nil, Option.map] <;> omega) | with_reducible assumption | with_reducible rfl | decide); done)) | (refine And.intro ?_ ?_; focus ((repeat' (first | exact trivial | refine And.intro ?_ ?_)) <;> (first | omega | (simp only [hasTy, okP, lenD, D.ren, D.isCell, Option.getD, List.length_set, List.length_take, List.length_drop, List.length_append, List.length_replicate, List.length_map, List.length_cons, List.length_nil, Option.map] <;> omega) | with_reducible assumption | with_reducible rfl | decide); done)) | refine chkG (by kernel_rfl) ?_
        refine ⟨0, ?_⟩
        repeat first | (refine EffG.mk (And.intro ?_ ?_); focus ((repeat' (first | exact trivial | refine And.intro ?_ ?_)) <;> (first | omega | (simp only [hasTy, okP, lenD, D.ren, D.isCell, Option.getD, List.length_set, List.length_take, List.length_drop, List.length_append, List.length_replicate, List.length_map, List.length_cons, List.length_nil, Option.map] <;> omega) | with_reducible assumption | with_reducible rfl | decide); done)) | (refine And.intro ?_ ?_; focus ((repeat' (first | exact trivial | refine And.intro ?_ ?_)) <;> (first | omega | (simp only [hasTy, okP, lenD, D.ren, D.isCell, Option.getD, List.length_set, List.length_take, List.length_drop, List.length_append, List.length_replicate, List.length_map, List.length_cons, List.length_nil, Option.map] <;> omega) | with_reducible assumption | with_reducible rfl | decide); done)) | refine chkG (by kernel_rfl) ?_
        refine callG (twice37_ac w s2) [] rfl rfl trivial rfl rfl ?_
        repeat first | (refine EffG.mk (And.intro ?_ ?_); focus ((repeat' (first | exact trivial | refine And.intro ?_ ?_)) <;> (first | omega | (simp only [hasTy, okP, lenD, D.ren, D.isCell, Option.getD, List.length_set, List.length_take, List.length_drop, List.length_append, List.length_replicate, List.length_map, List.length_cons, List.length_nil, Option.map] <;> omega) | with_reducible assumption | with_reducible rfl | decide); done)) | (refine And.intro ?_ ?_; focus ((repeat' (first | exact trivial | refine And.intro ?_ ?_)) <;> (first | omega | (simp only [hasTy, okP, lenD, D.ren, D.isCell, Option.getD, List.length_set, List.length_take, List.length_drop, List.length_append, List.length_replicate, List.length_map, List.length_cons, List.length_nil, Option.map] <;> omega) | with_reducible assumption | with_reducible rfl | decide); done)) | refine chkG (by kernel_rfl) ?_
        refine nextG (i + 1) [0, 1, 2, 3, 7, 5] ?_ ?_ ?_
        · omega
        · omega
        · refine viewG rfl ⟨rfl, rfl, rfl, rfl, slice_eq rfl ?_ rfl, rfl, slice_eq ?_ ?_ ?_, trivial⟩ ⟨⟨_, rfl, rfl, rfl, id⟩, ⟨_, rfl, rfl, (ren_keysD _ k1).symm, id⟩, ⟨_, rfl, rfl, (ren_keysD _ k2).symm, id⟩, ⟨_, rfl, rfl, rfl, id⟩, ⟨_, rfl, rfl, congrArg D.u8s ?_, id⟩, ⟨_, rfl, rfl, congrArg D.u8s hs2.symm, id⟩, trivial⟩ rfl
          · show 512 * j + 16 * i + 16 = 512 * j + 16 * (i + 1)
            omega
          · show o + 512 * j + 16 * i + 16 = o + 512 * j + 16 * (i + 1)
            omega
          · show ((512 - 16 * i : Nat) : Int).toNat - 16 = 512 - 16 * (i + 1)
            omega
          · show some (512 - 16 * i - 16) = some (512 - 16 * (i + 1))
            rw [show 512 - 16 * i - 16 = 512 - 16 * (i + 1) by omega]
          · rw [hs1]
            show List.take (512 * j + 16 * i) O ++ List.take 16 (blkF f w _) = _
            rw [List.take_of_length_le (by omega), List.take_of_length_le (by rw [blkF_length hf hp]; exact Nat.le_refl _)]
      · have hi : i = 32 := by have := of_decide_eq_false h; omega
        subst hi
        repeat first | (refine EffG.mk (And.intro ?_ ?_); focus ((repeat' (first | exact trivial | refine And.intro ?_ ?_)) <;> (first | omega | (simp only [hasTy, okP, lenD, D.ren, D.isCell, Option.getD, List.length_set, List.length_take, List.length_drop, List.length_append, List.length_replicate, List.length_map, List.length_cons, List.length_nil, Option.map] <;> omega) | with_reducible assumption | with_reducible rfl | decide); done)) | (refine And.intro ?_ ?_; focus ((repeat' (first | exact trivial | refine And.intro ?_ ?_)) <;> (first | omega | (simp only [hasTy, okP, lenD, D.ren, D.isCell, Option.getD, List.length_set, List.length_take, List.length_drop, List.length_append, List.length_replicate, List.length_map, List.length_cons, List.length_nil, Option.map] <;> omega) | with_reducible assumption | with_reducible rfl | decide); done)) | refine chkG (by kernel_rfl) ?_
        refine nextG (j + 1) [0, 1, 2, 3, 4] ?_ ?_ ?_
        · omega
        · omega
        · refine viewG rfl ⟨rfl, rfl, slice_eq ?_ ?_ rfl, rfl, rfl, trivial⟩ ⟨⟨_, rfl, rfl, rfl, id⟩, ⟨_, rfl, rfl, (ren_keysD _ k1).symm, id⟩, ⟨_, rfl, rfl, (ren_keysD _ k2).symm, id⟩, ⟨_, rfl, rfl, rfl, id⟩, ⟨_, rfl, rfl, congrArg D.u8s hc.symm, id⟩, trivial⟩ rfl
          · show o + 512 * j + 512 = o + 512 * (j + 1)
            omega
          · show ((512 * m - 512 * j : Nat) : Int).toNat - 512 = 512 * m - 512 * (j + 1)
            omega
    · have hj : j = m := by have := of_decide_eq_false h; omega
      subst hj
      repeat first | (refine EffG.mk (And.intro ?_ ?_); focus ((repeat' (first | exact trivial | refine And.intro ?_ ?_)) <;> (first | omega | (simp only [hasTy, okP, lenD, D.ren, D.isCell, Option.getD, List.length_set, List.length_take, List.length_drop, List.length_append, List.length_replicate, List.length_map, List.length_cons, List.length_nil, Option.map] <;> omega) | with_reducible assumption | with_reducible rfl | decide); done)) | (refine And.intro ?_ ?_; focus ((repeat' (first | exact trivial | refine And.intro ?_ ?_)) <;> (first | omega | (simp only [hasTy, okP, lenD, D.ren, D.isCell, Option.getD, List.length_set, List.length_take, List.length_drop, List.length_append, List.length_replicate, List.length_map, List.length_cons, List.length_nil, Option.map] <;> omega) | with_reducible assumption | with_reducible rfl | decide); done)) | refine chkG (by kernel_rfl) ?_
      refine retG [0, 1, 2, 3, 4] ⟨rfl, rfl⟩ rfl ⟨⟨_, rfl, rfl, rfl, id⟩, ⟨_, rfl, rfl, rfl, id⟩, ⟨_, rfl, rfl, (ren_keysD _ k1).symm, id⟩, ⟨_, rfl, rfl, (ren_keysD _ k2).symm, id⟩, ⟨_, rfl, rfl, rfl, id⟩, trivial⟩ rfl
  · refine ac_of tab mix Tryd.func26 rfl (by kernel_rfl) (by kernel_rfl) (by kernel_rfl) {} ?_
    repeat first | rw [hrem] | (refine EffG.mk (And.intro ?_ ?_); focus ((repeat' (first | exact trivial | refine And.intro ?_ ?_)) <;> (first | omega | (simp only [hasTy, okP, lenD, D.ren, D.isCell, Option.getD, List.length_set, List.length_take, List.length_drop, List.length_append, List.length_replicate, List.length_map, List.length_cons, List.length_nil, Option.map] <;> omega) | with_reducible assumption | with_reducible rfl | decide); done)) | (refine And.intro ?_ ?_; focus ((repeat' (first | exact trivial | refine And.intro ?_ ?_)) <;> (first | omega | (simp only [hasTy, okP, lenD, D.ren, D.isCell, Option.getD, List.length_set, List.length_take, List.length_drop, List.length_append, List.length_replicate, List.length_map, List.length_cons, List.length_nil, Option.map] <;> omega) | with_reducible assumption | with_reducible rfl | decide); done)) | refine chkG (by kernel_rfl) ?_
    refine Br.no rfl ?_
    repeat first | (refine EffG.mk (And.intro ?_ ?_); focus ((repeat' (first | exact trivial | refine And.intro ?_ ?_)) <;> (first | omega | (simp only [hasTy, okP, lenD, D.ren, D.isCell, Option.getD, List.length_set, List.length_take, List.length_drop, List.length_append, List.length_replicate, List.length_map, List.length_cons, List.length_nil, Option.map] <;> omega) | with_reducible assumption | with_reducible rfl | decide); done)) | (refine And.intro ?_ ?_; focus ((repeat' (first | exact trivial | refine And.intro ?_ ?_)) <;> (first | omega | (simp only [hasTy, okP, lenD, D.ren, D.isCell, Option.getD, List.length_set, List.length_take, List.length_drop, List.length_append, List.length_replicate, List.length_map, List.length_cons, List.length_nil, Option.map] <;> omega) | with_reducible assumption | with_reducible rfl | decide); done)) | refine chkG (by kernel_rfl) ?_
    refine Br.no rfl ?_
    repeat first | (refine EffG.mk (And.intro ?_ ?_); focus ((repeat' (first | exact trivial | refine And.intro ?_ ?_)) <;> (first | omega | (simp only [hasTy, okP, lenD, D.ren, D.isCell, Option.getD, List.length_set, List.length_take, List.length_drop, List.length_append, List.length_replicate, List.length_map, List.length_cons, List.length_nil, Option.map] <;> omega) | with_reducible assumption | with_reducible rfl | decide); done)) | (refine And.intro ?_ ?_; focus ((repeat' (first | exact trivial | refine And.intro ?_ ?_)) <;> (first | omega | (simp only [hasTy, okP, lenD, D.ren, D.isCell, Option.getD, List.length_set, List.length_take, List.length_drop, List.length_append, List.length_replicate, List.length_map, List.length_cons, List.length_nil, Option.map] <;> omega) | with_reducible assumption | with_reducible rfl | decide); done)) | refine chkG (by kernel_rfl) ?_
    refine Br.no rfl ?_
    repeat first | (refine EffG.mk (And.intro ?_ ?_); focus ((repeat' (first | exact trivial | refine And.intro ?_ ?_)) <;> (first | omega | (simp only [hasTy, okP, lenD, D.ren, D.isCell, Option.getD, List.length_set, List.length_take, List.length_drop, List.length_append, List.length_replicate, List.length_map, List.length_cons, List.length_nil, Option.map] <;> omega) | with_reducible assumption | with_reducible rfl | decide); done)) | (refine And.intro ?_ ?_; focus ((repeat' (first | exact trivial | refine And.intro ?_ ?_)) <;> (first | omega | (simp only [hasTy, okP, lenD, D.ren, D.isCell, Option.getD, List.length_set, List.length_take, List.length_drop, List.length_append, List.length_replicate, List.length_map, List.length_cons, List.length_nil, Option.map] <;> omega) | with_reducible assumption | with_reducible rfl | decide); done)) | refine chkG (by kernel_rfl) ?_
    refine Br.no (decide_eq_false (by omega)) ?_
    repeat first | (refine EffG.mk (And.intro ?_ ?_); focus ((repeat' (first | exact trivial | refine And.intro ?_ ?_)) <;> (first | omega | (simp only [hasTy, okP, lenD, D.ren, D.isCell, Option.getD, List.length_set, List.length_take, List.length_drop, List.length_append, List.length_replicate, List.length_map, List.length_cons, List.length_nil, Option.map] <;> omega) | with_reducible assumption | with_reducible rfl | decide); done)) | (refine And.intro ?_ ?_; focus ((repeat' (first | exact trivial | refine And.intro ?_ ?_)) <;> (first | omega | (simp only [hasTy, okP, lenD, D.ren, D.isCell, Option.getD, List.length_set, List.length_take, List.length_drop, List.length_append, List.length_replicate, List.length_map, List.length_cons, List.length_nil, Option.map] <;> omega) | with_reducible assumption | with_reducible rfl | decide); done)) | refine chkG (by kernel_rfl) ?_
    refine loopG Nat (fun j => [(0, .ptr 0 []), (1, .u64 (s + BitVec.ofNat 64 j)), (2, .slice 3 [] (o + 512 * j) (512 * m - 512 * j) (capI cap j)), (3, .fn g [.ptr 1 []] []), (10, .slice 4 [] 0 (512 * j) none)])
      (fun j => [(0, some ⟨tX, .node [.ptr 1 [], .ptr 2 []], true⟩), (1, some ⟨tC, keysD k1, true⟩), (2, some ⟨tC, keysD k2, true⟩), (3, some ⟨.arr n .cell, .u8s bs, false⟩), (4, some ⟨.row .cell, .u8s (ovI f k2 bs o s j), true⟩)]) 5
      (fun j => j ≤ m) (fun j => m - j) 0 [0, 1, 2, 3, 4] (Nat.zero_le _) ?_ ?_
    · refine viewG rfl ⟨rfl, congrArg (fun x => some (D.u64 x)) (BitVec.add_zero s).symm, rfl, rfl, rfl, trivial⟩ ⟨⟨_, rfl, rfl, rfl, id⟩, ⟨_, rfl, rfl, (ren_keysD _ k1).symm, id⟩, ⟨_, rfl, rfl, (ren_keysD _ k2).symm, id⟩, ⟨_, rfl, rfl, rfl, id⟩, ⟨_, rfl, rfl, rfl, id⟩, trivial⟩ rfl
    intro j hj
    have hl := ovI_length hf k2 s hm j hj
    repeat first | (refine EffG.mk (And.intro ?_ ?_); focus ((repeat' (first | exact trivial | refine And.intro ?_ ?_)) <;> (first | omega | (simp only [hasTy, okP, lenD, D.ren, D.isCell, Option.getD, List.length_set, List.length_take, List.length_drop, List.length_append, List.length_replicate, List.length_map, List.length_cons, List.length_nil, Option.map] <;> omega) | with_reducible assumption | with_reducible rfl | decide); done)) | (refine And.intro ?_ ?_; focus ((repeat' (first | exact trivial | refine And.intro ?_ ?_)) <;> (first | omega | (simp only [hasTy, okP, lenD, D.ren, D.isCell, Option.getD, List.length_set, List.length_take, List.length_drop, List.length_append, List.length_replicate, List.length_map, List.length_cons, List.length_nil, Option.map] <;> omega) | with_reducible assumption | with_reducible rfl | decide); done)) | refine chkG (by kernel_rfl) ?_
    refine Br.split (fun h => ?_) (fun h => ?_)
    · have hj : j < m := by have := of_decide_eq_true h; omega
      have hc : ovI f k2 bs o s (j + 1) = (secI f bs (o + 512 * j) (ovI f k2 bs o s j) (encI k2 (firF (s + BitVec.ofNat 64 j)) 14) 32).1 := rfl
      generalize ovI f k2 bs o s j = out at hl hc ⊢
      have hfa := first_ac k2 (s + BitVec.ofNat 64 j) h2
      have htl := encI_length k2 _ (firF_length (s + BitVec.ofNat 64 j)) 14
      generalize encI k2 (firF (s + BitVec.ofNat 64 j)) 14 = t at hc hfa htl
      repeat first | (refine EffG.mk (And.intro ?_ ?_); focus ((repeat' (first | exact trivial | refine And.intro ?_ ?_)) <;> (first | omega | (simp only [hasTy, okP, lenD, D.ren, D.isCell, Option.getD, List.length_set, List.length_take, List.length_drop, List.length_append, List.length_replicate, List.length_map, List.length_cons, List.length_nil, Option.map] <;> omega) | with_reducible assumption | with_reducible rfl | decide); done)) | (refine And.intro ?_ ?_; focus ((repeat' (first | exact trivial | refine And.intro ?_ ?_)) <;> (first | omega | (simp only [hasTy, okP, lenD, D.ren, D.isCell, Option.getD, List.length_set, List.length_take, List.length_drop, List.length_append, List.length_replicate, List.length_map, List.length_cons, List.length_nil, Option.map] <;> omega) | with_reducible assumption | with_reducible rfl | decide); done)) | refine chkG (by kernel_rfl) ?_
      refine callG hfa [0, 1, 2] rfl rfl ⟨⟨_, rfl, rfl, rfl, id⟩, ⟨_, rfl, rfl, (ren_keysD _ k2).symm, id⟩, trivial⟩ rfl rfl ?_
      repeat first | (refine EffG.mk (And.intro ?_ ?_); focus ((repeat' (first | exact trivial | refine And.intro ?_ ?_)) <;> (first | omega | (simp only [hasTy, okP, lenD, D.ren, D.isCell, Option.getD, List.length_set, List.length_take, List.length_drop, List.length_append, List.length_replicate, List.length_map, List.length_cons, List.length_nil, Option.map] <;> omega) | with_reducible assumption | with_reducible rfl | decide); done)) | (refine And.intro ?_ ?_; focus ((repeat' (first | exact trivial | refine And.intro ?_ ?_)) <;> (first | omega | (simp only [hasTy, okP, lenD, D.ren, D.isCell, Option.getD, List.length_set, List.length_take, List.length_drop, List.length_append, List.length_replicate, List.length_map, List.length_cons, List.length_nil, Option.map] <;> omega) | with_reducible assumption | with_reducible rfl | decide); done)) | refine chkG (by kernel_rfl) ?_
      have hu : s + BitVec.ofNat 64 j + BitVec.ofNat 64 (Int.toNat 1) = s + BitVec.ofNat 64 (j + 1) := by
        rw [BitVec.add_assoc, ← BitVec.ofNat_add]; rfl
      refine loopG Nat (fun i => [(0, .ptr 0 []), (1, .u64 (s + BitVec.ofNat 64 (j + 1))), (2, .slice 3 [] (o + 512 * j) (512 * m - 512 * j) (capI cap j)), (3, .fn g [.ptr 1 []] []), (10, .slice 4 [] 0 (512 * j + 16 * i) none), (11, .ptr 5 []),
          (12, .slice 3 [] (o + 512 * j + 16 * i) (512 - 16 * i) (some (512 - 16 * i)))])
        (fun i => [(0, some ⟨tX, .node [.ptr 1 [], .ptr 2 []], true⟩), (1, some ⟨tC, keysD k1, true⟩), (2, some ⟨tC, keysD k2, true⟩), (3, some ⟨.arr n .cell, .u8s bs, false⟩), (4, some ⟨.row .cell, .u8s (secI f bs (o + 512 * j) out t i).1, true⟩),
          (5, some ⟨t16, .u8s (secI f bs (o + 512 * j) out t i).2, true⟩)]) 6 (fun i => i ≤ 32) (fun i => 32 - i) 0 [0, 1, 2, 3, 4, 5] (Nat.zero_le _) ?_ ?_
      · refine viewG rfl ⟨rfl, congrArg (fun x => some (D.u64 x)) hu, rfl, rfl, rfl, rfl, slice_eq rfl rfl rfl, trivial⟩ ⟨⟨_, rfl, rfl, rfl, id⟩, ⟨_, rfl, rfl, (ren_keysD _ k1).symm, id⟩, ⟨_, rfl, rfl, (ren_keysD _ k2).symm, id⟩, ⟨_, rfl, rfl, rfl, id⟩, ⟨_, rfl, rfl, rfl, id⟩, ⟨_, rfl, rfl, rfl, id⟩, trivial⟩ rfl
      intro i hi
      obtain ⟨s1, s2⟩ := secI_length (out := out) hf htl (show o + 512 * j + 512 ≤ bs.length by omega) i hi
      rw [hl] at s1
      repeat first | (refine EffG.mk (And.intro ?_ ?_); focus ((repeat' (first | exact trivial | refine And.intro ?_ ?_)) <;> (first | omega | (simp only [hasTy, okP, lenD, D.ren, D.isCell, Option.getD, List.length_set, List.length_take, List.length_drop, List.length_append, List.length_replicate, List.length_map, List.length_cons, List.length_nil, Option.map] <;> omega) | with_reducible assumption | with_reducible rfl | decide); done)) | (refine And.intro ?_ ?_; focus ((repeat' (first | exact trivial | refine And.intro ?_ ?_)) <;> (first | omega | (simp only [hasTy, okP, lenD, D.ren, D.isCell, Option.getD, List.length_set, List.length_take, List.length_drop, List.length_append, List.length_replicate, List.length_map, List.length_cons, List.length_nil, Option.map] <;> omega) | with_reducible assumption | with_reducible rfl | decide); done)) | refine chkG (by kernel_rfl) ?_
      refine Br.split (fun h => ?_) (fun h => ?_)
      · have hi : i < 32 := by have := of_decide_eq_true h; omega
        have hs1 : (secI f bs (o + 512 * j) out t (i + 1)).1 = (secI f bs (o + 512 * j) out t i).1 ++ blkF f (secI f bs (o + 512 * j) out t i).2 ((bs.drop (o + 512 * j + 16 * i)).take 16) := rfl
        have hs2 : (secI f bs (o + 512 * j) out t (i + 1)).2 = twF (secI f bs (o + 512 * j) out t i).2 := rfl
        have hp : ((bs.drop (o + 512 * j + 16 * i)).take 16).length = 16 := by rw [List.length_take, List.length_drop]; omega
        generalize (secI f bs (o + 512 * j) out t i).1 = O at s1 hs1 ⊢
        generalize (secI f bs (o + 512 * j) out t i).2 = w at s2 hs1 hs2 ⊢
        have hq : (xorF ((bs.drop (o + 512 * j + 16 * i)).take 16) w).length = 16 := by rw [xorF_length, hp]
        have hfq := hf _ hq
        have hbl2 : (xorF (f (xorF ((bs.drop (o + 512 * j + 16 * i)).take 16) w)) w).length = 16 := by rw [xorF_length, hfq]
        have hwl := twF_length w
        rw [s2] at hwl
        repeat first | (refine EffG.mk (And.intro ?_ ?_); focus ((repeat' (first | exact trivial | refine And.intro ?_ ?_)) <;> (first | omega | (simp only [hasTy, okP, lenD, D.ren, D.isCell, Option.getD, List.length_set, List.length_take, List.length_drop, List.length_append, List.length_replicate, List.length_map, List.length_cons, List.length_nil, Option.map] <;> omega) | with_reducible assumption | with_reducible rfl | decide); done)) | (refine And.intro ?_ ?_; focus ((repeat' (first | exact trivial | refine And.intro ?_ ?_)) <;> (first | omega | (simp only [hasTy, okP, lenD, D.ren, D.isCell, Option.getD, List.length_set, List.length_take, List.length_drop, List.length_append, List.length_replicate, List.length_map, List.length_cons, List.length_nil, Option.map] <;> omega) | with_reducible assumption | with_reducible rfl | decide); done)) | refine chkG (by kernel_rfl) ?_
        refine callG (xxor_ac ((bs.drop (o + 512 * j + 16 * i)).take 16) w hp s2) [] rfl rfl trivial rfl rfl ?_
        repeat first | (refine EffG.mk (And.intro ?_ ?_); focus ((repeat' (first | exact trivial | refine And.intro ?_ ?_)) <;> (first | omega | (simp only [hasTy, okP, lenD, D.ren, D.isCell, Option.getD, List.length_set, List.length_take, List.length_drop, List.length_append, List.length_replicate, List.length_map, List.length_cons, List.length_nil, Option.map] <;> omega) | with_reducible assumption | with_reducible rfl | decide); done)) | (refine And.intro ?_ ?_; focus ((repeat' (first | exact trivial | refine And.intro ?_ ?_)) <;> (first | omega | (simp only [hasTy, okP, lenD, D.ren, D.isCell, Option.getD, List.length_set, List.length_take, List.length_drop, List.length_append, List.length_replicate, List.length_map, List.length_cons, List.length_nil, Option.map] <;> omega) | with_reducible assumption | with_reducible rfl | decide); done)) | refine chkG (by kernel_rfl) ?_
        refine callG (hg _ hq) [1] rfl rfl ⟨⟨_, rfl, rfl, (ren_keysD _ k1).symm, id⟩, trivial⟩ rfl rfl ?_
        repeat first | (refine EffG.mk (And.intro ?_ ?_); focus ((repeat' (first | exact trivial | refine And.intro ?_ ?_)) <;> (first | omega | (simp only [hasTy, okP, lenD, D.ren, D.isCell, Option.getD, List.length_set, List.length_take, List.length_drop, List.length_append, List.length_replicate, List.length_map, List.length_cons, List.length_nil, Option.map] <;> omega) | with_reducible assumption | with_reducible rfl | decide); done)) | (refine And.intro ?_ ?_; focus ((repeat' (first | exact trivial | refine And.intro ?_ ?_)) <;> (first | omega | (simp only [hasTy, okP, lenD, D.ren, D.isCell, Option.getD, List.length_set, List.length_take, List.length_drop, List.length_append, List.length_replicate, List.length_map, List.length_cons, List.length_nil, Option.map] <;> omega) | with_reducible assumption | with_reducible rfl | decide); done)) | refine chkG (by kernel_rfl) ?_
        refine callG (xxor_ac _ w hfq s2) [] rfl rfl trivial rfl rfl ?_
        repeat first | (refine EffG.mk (And.intro ?_ ?_); focus ((repeat' (first | exact trivial | refine And.intro ?_ ?_)) <;> (first | omega | (simp only [hasTy, okP, lenD, D.ren, D.isCell, Option.getD, List.length_set, List.length_take, List.length_drop, List.length_append, List.length_replicate, List.length_map, List.length_cons, List.length_nil, Option.map] <;> omega) | with_reducible assumption | with_reducible rfl | decide); done)) | (refine And.intro ?_ ?_; focus ((repeat' (first | exact trivial | refine And.intro ?_ ?_)) <;> (first | omega | (simp only [hasTy, okP, lenD, D.ren, D.isCell, Option.getD, List.length_set, List.length_take, List.length_drop, List.length_append, List.length_replicate, List.length_map, List.length_cons, List.length_nil, Option.map] <;> omega) | with_reducible assumption | with_reducible rfl | decide); done)) | refine chkG (by kernel_rfl) ?_
        refine ⟨0, ?_⟩
        repeat first | (refine EffG.mk (And.intro ?_ ?_); focus ((repeat' (first | exact trivial | refine And.intro ?_ ?_)) <;> (first | omega | (simp only [hasTy, okP, lenD, D.ren, D.isCell, Option.getD, List.length_set, List.length_take, List.length_drop, List.length_append, List.length_replicate, List.length_map, List.length_cons, List.length_nil, Option.map] <;> omega) | with_reducible assumption | with_reducible rfl | decide); done)) | (refine And.intro ?_ ?_; focus ((repeat' (first | exact trivial | refine And.intro ?_ ?_)) <;> (first | omega | (simp only [hasTy, okP, lenD, D.ren, D.isCell, Option.getD, List.length_set, List.length_take, List.length_drop, List.length_append, List.length_replicate, List.length_map, List.length_cons, List.length_nil, Option.map] <;> omega) | with_reducible assumption | with_reducible rfl | decide); done)) | refine chkG (by kernel_rfl) ?_
        refine callG (twice37_ac w s2) [] rfl rfl trivial rfl rfl ?_
        repeat first | (refine EffG.mk (And.intro ?_ ?_); focus ((repeat' (first | exact trivial | refine And.intro ?_ ?_)) <;> (first | omega | (simp only [hasTy, okP, lenD, D.ren, D.isCell, Option.getD, List.length_set, List.length_take, List.length_drop, List.length_append, List.length_replicate, List.length_map, List.length_cons, List.length_nil, Option.map] <;> omega) | with_reducible assumption | with_reducible rfl | decide); done)) | (refine And.intro ?_ ?_; focus ((repeat' (first | exact trivial | refine And.intro ?_ ?_)) <;> (first | omega | (simp only [hasTy, okP, lenD, D.ren, D.isCell, Option.getD, List.length_set, List.length_take, List.length_drop, List.length_append, List.length_replicate, List.length_map, List.length_cons, List.length_nil, Option.map] <;> omega) | with_reducible assumption | with_reducible rfl | decide); done)) | refine chkG (by kernel_rfl) ?_
        refine nextG (i + 1) [0, 1, 2, 3, 7, 5] ?_ ?_ ?_
        · omega
        · omega
        · refine viewG rfl ⟨rfl, rfl, rfl, rfl, slice_eq rfl ?_ rfl, rfl, slice_eq ?_ ?_ ?_, trivial⟩ ⟨⟨_, rfl, rfl, rfl, id⟩, ⟨_, rfl, rfl, (ren_keysD _ k1).symm, id⟩, ⟨_, rfl, rfl, (ren_keysD _ k2).symm, id⟩, ⟨_, rfl, rfl, rfl, id⟩, ⟨_, rfl, rfl, congrArg D.u8s ?_, id⟩, ⟨_, rfl, rfl, congrArg D.u8s hs2.symm, id⟩, trivial⟩ rfl
          · show 512 * j + 16 * i + 16 = 512 * j + 16 * (i + 1)
            omega
          · show o + 512 * j + 16 * i + 16 = o + 512 * j + 16 * (i + 1)
            omega
          · show ((512 - 16 * i : Nat) : Int).toNat - 16 = 512 - 16 * (i + 1)
            omega
          · show some (512 - 16 * i - 16) = some (512 - 16 * (i + 1))
            rw [show 512 - 16 * i - 16 = 512 - 16 * (i + 1) by omega]
          · rw [hs1]
            show List.take (512 * j + 16 * i) O ++ List.take 16 (blkF f w _) = _
            rw [List.take_of_length_le (by omega), List.take_of_length_le (by rw [blkF_length hf hp]; exact Nat.le_refl _)]
      · have hi : i = 32 := by have := of_decide_eq_false h; omega
        subst hi
        repeat first | (refine EffG.mk (And.intro ?_ ?_); focus ((repeat' (first | exact trivial | refine And.intro ?_ ?_)) <;> (first | omega | (simp only [hasTy, okP, lenD, D.ren, D.isCell, Option.getD, List.length_set, List.length_take, List.length_drop, List.length_append, List.length_replicate, List.length_map, List.length_cons, List.length_nil, Option.map] <;> omega) | with_reducible assumption | with_reducible rfl | decide); done)) | (refine And.intro ?_ ?_; focus ((repeat' (first | exact trivial | refine And.intro ?_ ?_)) <;> (first | omega | (simp only [hasTy, okP, lenD, D.ren, D.isCell, Option.getD, List.length_set, List.length_take, List.length_drop, List.length_append, List.length_replicate, List.length_map, List.length_cons, List.length_nil, Option.map] <;> omega) | with_reducible assumption | with_reducible rfl | decide); done)) | refine chkG (by kernel_rfl) ?_
        refine nextG (j + 1) [0, 1, 2, 3, 4] ?_ ?_ ?_
        · omega
        · omega
        · refine viewG rfl ⟨rfl, rfl, slice_eq ?_ ?_ rfl, rfl, rfl, trivial⟩ ⟨⟨_, rfl, rfl, rfl, id⟩, ⟨_, rfl, rfl, (ren_keysD _ k1).symm, id⟩, ⟨_, rfl, rfl, (ren_keysD _ k2).symm, id⟩, ⟨_, rfl, rfl, rfl, id⟩, ⟨_, rfl, rfl, congrArg D.u8s hc.symm, id⟩, trivial⟩ rfl
          · show o + 512 * j + 512 = o + 512 * (j + 1)
            omega
          · show ((512 * m - 512 * j : Nat) : Int).toNat - 512 = 512 * m - 512 * (j + 1)
            omega
    · have hj : j = m := by have := of_decide_eq_false h; omega
      subst hj
      repeat first | (refine EffG.mk (And.intro ?_ ?_); focus ((repeat' (first | exact trivial | refine And.intro ?_ ?_)) <;> (first | omega | (simp only [hasTy, okP, lenD, D.ren, D.isCell, Option.getD, List.length_set, List.length_take, List.length_drop, List.length_append, List.length_replicate, List.length_map, List.length_cons, List.length_nil, Option.map] <;> omega) | with_reducible assumption | with_reducible rfl | decide); done)) | (refine And.intro ?_ ?_; focus ((repeat' (first | exact trivial | refine And.intro ?_ ?_)) <;> (first | omega | (simp only [hasTy, okP, lenD, D.ren, D.isCell, Option.getD, List.length_set, List.length_take, List.length_drop, List.length_append, List.length_replicate, List.length_map, List.length_cons, List.length_nil, Option.map] <;> omega) | with_reducible assumption | with_reducible rfl | decide); done)) | refine chkG (by kernel_rfl) ?_
      refine retG [0, 1, 2, 3, 4] ⟨rfl, rfl⟩ rfl ⟨⟨_, rfl, rfl, rfl, id⟩, ⟨_, rfl, rfl, rfl, id⟩, ⟨_, rfl, rfl, (ren_keysD _ k1).symm, id⟩, ⟨_, rfl, rfl, (ren_keysD _ k2).symm, id⟩, ⟨_, rfl, rfl, rfl, id⟩, trivial⟩ rfl
end Go.Proofs.YtljkjdhkofbgmaaDoor.Av
