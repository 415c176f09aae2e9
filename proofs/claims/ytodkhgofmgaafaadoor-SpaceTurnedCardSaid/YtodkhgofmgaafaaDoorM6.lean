import Derived.Test.YtodkhgofmgaafaaDoorM5
import Derived.Test.YtodkhgofmgaafaaDoorM4
namespace Go.Proofs.YtodkhgofmgaafaaDoor.Av
open Go
set_option linter.all false
set_option maxRecDepth 3000

/-! sectors, one after the other -/
def blkF (f : List (BitVec 8) → List (BitVec 8)) (t p : List (BitVec 8)) : List (BitVec 8) := xorF (f (xorF p t)) t
/-- the blocks of a sector that begins at o -/
def secI (f : List (BitVec 8) → List (BitVec 8)) (bs : List (BitVec 8)) (o : Nat) (out t : List (BitVec 8)) : Nat → List (BitVec 8) × List (BitVec 8)
  | 0 => (out, t)
  | i + 1 => ((secI f bs o out t i).1 ++ blkF f (secI f bs o out t i).2 ((bs.drop (o + 16 * i)).take 16), twF (secI f bs o out t i).2)
/-- sectors from o on, the first one of number s -/
def ovI (f : List (BitVec 8) → List (BitVec 8)) (k2 : List (List (BitVec 8))) (bs : List (BitVec 8)) (o : Nat) (s : BitVec 64) : Nat → List (BitVec 8)
  | 0 => []
  | j + 1 => (secI f bs (o + 512 * j) (ovI f k2 bs o s j) (encI k2 (firF (s + BitVec.ofNat 64 j)) 14) 32).1

theorem blkF_length {f : List (BitVec 8) → List (BitVec 8)} (hf : ∀ p, p.length = 16 → (f p).length = 16) {t p : List (BitVec 8)} (hp : p.length = 16) : (blkF f t p).length = 16 := by
  rw [blkF, xorF_length, hf _ (by rw [xorF_length, hp])]
theorem secI_length {f : List (BitVec 8) → List (BitVec 8)} (hf : ∀ p, p.length = 16 → (f p).length = 16) {bs : List (BitVec 8)} {o : Nat} {out t : List (BitVec 8)} (ht : t.length = 16) (ho : o + 512 ≤ bs.length) :
    ∀ i, i ≤ 32 → (secI f bs o out t i).1.length = out.length + 16 * i ∧ (secI f bs o out t i).2.length = 16
  | 0, _ => ⟨rfl, ht⟩
  | i + 1, hi => by
    obtain ⟨h1, h2⟩ := secI_length (out := out) hf ht ho i (by omega)
    rw [secI]
    refine ⟨?_, ?_⟩
    · rw [List.length_append, h1, blkF_length hf (by rw [List.length_take, List.length_drop]; omega)]; omega
    · show (twF _).length = 16
      rw [twF_length, h2]
theorem firF_length (s : BitVec 64) : (firF s).length = 16 := firI_length s 8
theorem ovI_length {f : List (BitVec 8) → List (BitVec 8)} (hf : ∀ p, p.length = 16 → (f p).length = 16) (k2 : List (List (BitVec 8))) {bs : List (BitVec 8)} {o : Nat} (s : BitVec 64) {m : Nat} (hm : o + 512 * m ≤ bs.length) :
    ∀ j, j ≤ m → (ovI f k2 bs o s j).length = 512 * j
  | 0, _ => rfl
  | j + 1, hj => by
    rw [ovI, (secI_length hf (encI_length k2 _ (firF_length _) 14) (by omega) 32 (Nat.le_refl _)).1, ovI_length hf k2 s hm j (by omega)]; omega

def capI : Option Nat → Nat → Option Nat
  | c, 0 => c
  | c, j + 1 => (capI c j).map (· - 512)

theorem slice_eqO {b a a' l l' : Nat} {c c' : Option Nat} (h1 : a = a') (h2 : l = l') (h3 : c = c') : some (D.slice b [] a l c) = some (D.slice b [] a' l' c') := by rw [h1, h2, h3]

set_option maxHeartbeats 4000000 in
theorem over_ac (T : Ty) (hT : T = .row .cell ∨ ∃ n, T = .arr n .cell) (g : Nat) (f : List (BitVec 8) → List (BitVec 8)) (k1 k2 : List (List (BitVec 8))) (h2 : Rows 15 16 k2)
    (hg : ∀ p, p.length = 16 → AC Tryd.prog g [.ptr 0 [], .u8s p] 1 [(0, some ⟨tC, keysD k1, true⟩)] ⟨.u8s (f p), [], []⟩) (hf : ∀ p, p.length = 16 → (f p).length = 16)
    (bs : List (BitVec 8)) (o m : Nat) (cap : Option Nat) (s : BitVec 64) (hm : o + 512 * m ≤ bs.length) (hm2 : m ≤ 128) (hbl : bs.length < 9223372036854775808) :
    AC Tryd.prog 114 [.ptr 0 [], .u64 s, .slice 3 [] o (512 * m) cap, .fn g [.ptr 1 []] []] 4
      [(0, some ⟨tX, .node [.ptr 1 [], .ptr 2 []], true⟩), (1, some ⟨tC, keysD k1, true⟩), (2, some ⟨tC, keysD k2, true⟩), (3, some ⟨T, .u8s bs, false⟩)]
      ⟨.tup [.slice 4 [] 0 (512 * m) none, .i64 0], [], [(.row .cell, .u8s (ovI f k2 bs o s m))]⟩ := by
  have hrem : Int.tmod ((512 * m : Nat) : Int) 512 = 0 := by
    rw [show Int.tmod ((512 * m : Nat) : Int) 512 = ((512 * m % 512 : Nat) : Int) from (Int.ofNat_tmod (512 * m) 512).symm]
    omega
  rcases hT with rfl | ⟨n, rfl⟩
  · refine ac_of tab mix Tryd.func114 rfl (by kernel_rfl) (by kernel_rfl) (by kernel_rfl) {} ?_
    repeat first | rw [hrem] | (refine EffG.mk (And.intro ?_ ?_); focus ((repeat' (first | exact trivial | refine And.intro ?_ ?_)) <;> (first | omega | (simp only [hasTy, okP, lenD, D.ren, D.isCell, Option.getD, List.length_set, List.length_take, List.length_drop, List.length_append, List.length_replicate, List.length_map, List.length_cons, List.length_nil, Option.map] <;> omega) | with_reducible assumption | with_reducible rfl | decide); done)) | (refine And.intro ?_ ?_; focus ((repeat' (first | exact trivial | refine And.intro ?_ ?_)) <;> (first | omega | (simp only [hasTy, okP, lenD, D.ren, D.isCell, Option.getD, List.length_set, List.length_take, List.length_drop, List.length_append, List.length_replicate, List.length_map, List.length_cons, List.length_nil, Option.map] <;> omega) | with_reducible assumption | with_reducible rfl | decide); done)) | refine chkG (by kernel_rfl) ?_
    refine Br.no rfl ?_
    repeat first | (refine EffG.mk (And.intro ?_ ?_); focus ((repeat' (first | exact trivial | refine And.intro ?_ ?_)) <;> (first | omega | (simp only [hasTy, okP, lenD, D.ren, D.isCell, Option.getD, List.length_set, List.length_take, List.length_drop, List.length_append, List.length_replicate, List.length_map, List.length_cons, List.length_nil, Option.map] <;> omega) | with_reducible assumption | with_reducible rfl | decide); done)) | (refine And.intro ?_ ?_; focus ((repeat' (first | exact trivial | refine And.intro ?_ ?_)) <;> (first | omega | (simp only [hasTy, okP, lenD, D.ren, D.isCell, Option.getD, List.length_set, List.length_take, List.length_drop, List.length_append, List.length_replicate, List.length_map, List.length_cons, List.length_nil, Option.map] <;> omega) | with_reducible assumption | with_reducible rfl | decide); done)) | refine chkG (by kernel_rfl) ?_
    refine Br.no rfl ?_
    repeat first | (refine EffG.mk (And.intro ?_ ?_); focus ((repeat' (first | exact trivial | refine And.intro ?_ ?_)) <;> (first | omega | (simp only [hasTy, okP, lenD, D.ren, D.isCell, Option.getD, List.length_set, List.length_take, List.length_drop, List.length_append, List.length_replicate, List.length_map, List.length_cons, List.length_nil, Option.map] <;> omega) | with_reducible assumption | with_reducible rfl | decide); done)) | (refine And.intro ?_ ?_; focus ((repeat' (first | exact trivial | refine And.intro ?_ ?_)) <;> (first | omega | (simp only [hasTy, okP, lenD, D.ren, D.isCell, Option.getD, List.length_set, List.length_take, List.length_drop, List.length_append, List.length_replicate, List.length_map, List.length_cons, List.length_nil, Option.map] <;> omega) | with_reducible assumption | with_reducible rfl | decide); done)) | refine chkG (by kernel_rfl) ?_
    refine Br.no rfl ?_
    repeat first | (refine EffG.mk (And.intro ?_ ?_); focus ((repeat' (first | exact trivial | refine And.intro ?_ ?_)) <;> (first | omega | (simp only [hasTy, okP, lenD, D.ren, D.isCell, Option.getD, List.length_set, List.length_take, List.length_drop, List.length_append, List.length_replicate, List.length_map, List.length_cons, List.length_nil, Option.map] <;> omega) | with_reducible assumption | with_reducible rfl | decide); done)) | (refine And.intro ?_ ?_; focus ((repeat' (first | exact trivial | refine And.intro ?_ ?_)) <;> (first | omega | (simp only [hasTy, okP, lenD, D.ren, D.isCell, Option.getD, List.length_set, List.length_take, List.length_drop, List.length_append, List.length_replicate, List.length_map, List.length_cons, List.length_nil, Option.map] <;> omega) | with_reducible assumption | with_reducible rfl | decide); done)) | refine chkG (by kernel_rfl) ?_
    refine Br.no (decide_eq_false (by omega)) ?_
    repeat first | (refine EffG.mk (And.intro ?_ ?_); focus ((repeat' (first | exact trivial | refine And.intro ?_ ?_)) <;> (first | omega | (simp only [hasTy, okP, lenD, D.ren, D.isCell, Option.getD, List.length_set, List.length_take, List.length_drop, List.length_append, List.length_replicate, List.length_map, List.length_cons, List.length_nil, Option.map] <;> omega) | with_reducible assumption | with_reducible rfl | decide); done)) | (refine And.intro ?_ ?_; focus ((repeat' (first | exact trivial | refine And.intro ?_ ?_)) <;> (first | omega | (simp only [hasTy, okP, lenD, D.ren, D.isCell, Option.getD, List.length_set, List.length_take, List.length_drop, List.length_append, List.length_replicate, List.length_map, List.length_cons, List.length_nil, Option.map] <;> omega) | with_reducible assumption | with_reducible rfl | decide); done)) | refine chkG (by kernel_rfl) ?_
    refine loopG Nat (fun j => [(0, .ptr 0 []), (1, .u64 (s + BitVec.ofNat 64 j)), (2, .slice 3 [] (o + 512 * j) (512 * m - 512 * j) (capI cap j)), (3, .fn g [.ptr 1 []] []), (10, .slice 4 [] 0 (512 * j) none)])
      (fun j => [(0, some ⟨tX, .node [.ptr 1 [], .ptr 2 []], true⟩), (1, some ⟨tC, keysD k1, true⟩), (2, some ⟨tC, keysD k2, true⟩), (3, some ⟨.row .cell, .u8s bs, false⟩), (4, some ⟨.row .cell, .u8s (ovI f k2 bs o s j), true⟩)]) 5
      (fun j => j ≤ m) (fun j => m - j) 0 [0, 1, 2, 3, 4] (Nat.zero_le _) ?_ ?_
    · refine viewG rfl ⟨rfl, congrArg (fun x => some (D.u64 x)) (BitVec.add_zero s).symm, rfl, rfl, rfl, trivial⟩ ⟨⟨_, rfl, rfl, rfl, id⟩, ⟨_, rfl, rfl, (ren_keysD _ k1).symm, id⟩, ⟨_, rfl, rfl, (ren_keysD _ k2).symm, id⟩, ⟨_, rfl, rfl, rfl, id⟩, ⟨_, rfl, rfl, rfl, id⟩, trivial⟩ rfl
    intro j hj
    have hl := ovI_length hf k2 s hm j hj
    repeat first | (refine EffG.mk (And.intro ?_ ?_); focus ((repeat' (first | exact trivial | refine And.intro ?_ ?_)) <;> (first | omega | (simp only [hasTy, okP, lenD, D.ren, D.isCell, Option.getD, List.length_set, List.length_take, List.length_drop, List.length_append, List.length_replicate, List.length_map, List.length_cons, List.length_nil, Option.map] <;> omega) | with_reducible assumption | with_reducible rfl | decide); done)) | (refine And.intro ?_ ?_; focus ((repeat' (first | exact trivial | refine And.intro ?_ ?_)) <;> (first | omega | (simp only [hasTy, okP, lenD, D.ren, D.isCell, Option.getD, List.length_set, List.length_take, List.length_drop, List.length_append, List.length_replicate, List.length_map, List.length_cons, List.length_nil, Option.map] <;> omega) | with_reducible assumption | with_reducible rfl | decide); done)) | refine chkG (by kernel_rfl) ?_
    refine Br.split (fun h => ?_) (fun h => ?_)
    · have hj : j < m := by have := of_decide_eq_true h; omega
      have hc : ovI f k2 bs o s (j + 1) = (secI f bs (o + 512 * j) (ovI f k2 bs o s j) (encI k2 (firF (s + BitVec.ofNat 64 j)) 14) 32).1 := rfl
      generalize ovI f k2 bs o s j = out at hl hc ⊢
      have hfa := first_ac k2 (s + BitVec.ofNat 64 j) h2
      have htl := encI_length k2 _ (firF_length (s + BitVec.ofNat 64 j)) 14
      generalize encI k2 (firF (s + BitVec.ofNat 64 j)) 14 = t at hc hfa htl
      repeat first | (refine EffG.mk (And.intro ?_ ?_); focus ((repeat' (first | exact trivial | refine And.intro ?_ ?_)) <;> (first | omega | (simp only [hasTy, okP, lenD, D.ren, D.isCell, Option.getD, List.length_set, List.length_take, List.length_drop, List.length_append, List.length_replicate, List.length_map, List.length_cons, List.length_nil, Option.map] <;> omega) | with_reducible assumption | with_reducible rfl | decide); done)) | (refine And.intro ?_ ?_; focus ((repeat' (first | exact trivial | refine And.intro ?_ ?_)) <;> (first | omega | (simp only [hasTy, okP, lenD, D.ren, D.isCell, Option.getD, List.length_set, List.length_take, List.length_drop, List.length_append, List.length_replicate, List.length_map, List.length_cons, List.length_nil, Option.map] <;> omega) | with_reducible assumption | with_reducible rfl | decide); done)) | refine chkG (by kernel_rfl) ?_
      refine callG hfa [0, 1, 2] rfl rfl ⟨⟨_, rfl, rfl, rfl, id⟩, ⟨_, rfl, rfl, (ren_keysD _ k2).symm, id⟩, trivial⟩ rfl rfl ?_
      repeat first | (refine EffG.mk (And.intro ?_ ?_); focus ((repeat' (first | exact trivial | refine And.intro ?_ ?_)) <;> (first | omega | (simp only [hasTy, okP, lenD, D.ren, D.isCell, Option.getD, List.length_set, List.length_take, List.length_drop, List.length_append, List.length_replicate, List.length_map, List.length_cons, List.length_nil, Option.map] <;> omega) | with_reducible assumption | with_reducible rfl | decide); done)) | (refine And.intro ?_ ?_; focus ((repeat' (first | exact trivial | refine And.intro ?_ ?_)) <;> (first | omega | (simp only [hasTy, okP, lenD, D.ren, D.isCell, Option.getD, List.length_set, List.length_take, List.length_drop, List.length_append, List.length_replicate, List.length_map, List.length_cons, List.length_nil, Option.map] <;> omega) | with_reducible assumption | with_reducible rfl | decide); done)) | refine chkG (by kernel_rfl) ?_
      have hu : s + BitVec.ofNat 64 j + BitVec.ofNat 64 (Int.toNat 1) = s + BitVec.ofNat 64 (j + 1) := by
        rw [BitVec.add_assoc, ← BitVec.ofNat_add]; rfl
      refine loopG Nat (fun i => [(0, .ptr 0 []), (1, .u64 (s + BitVec.ofNat 64 (j + 1))), (2, .slice 3 [] (o + 512 * j) (512 * m - 512 * j) (capI cap j)), (3, .fn g [.ptr 1 []] []), (10, .slice 4 [] 0 (512 * j + 16 * i) none), (11, .ptr 5 []),
          (12, .slice 3 [] (o + 512 * j + 16 * i) (512 - 16 * i) (some (512 - 16 * i)))])
        (fun i => [(0, some ⟨tX, .node [.ptr 1 [], .ptr 2 []], true⟩), (1, some ⟨tC, keysD k1, true⟩), (2, some ⟨tC, keysD k2, true⟩), (3, some ⟨.row .cell, .u8s bs, false⟩), (4, some ⟨.row .cell, .u8s (secI f bs (o + 512 * j) out t i).1, true⟩),
          (5, some ⟨t16, .u8s (secI f bs (o + 512 * j) out t i).2, true⟩)]) 6 (fun i => i ≤ 32) (fun i => 32 - i) 0 [0, 1, 2, 3, 4, 5] (Nat.zero_le _) ?_ ?_
      · refine viewG rfl ⟨rfl, congrArg (fun x => some (D.u64 x)) hu, rfl, rfl, rfl, rfl, slice_eqO rfl rfl rfl, trivial⟩ ⟨⟨_, rfl, rfl, rfl, id⟩, ⟨_, rfl, rfl, (ren_keysD _ k1).symm, id⟩, ⟨_, rfl, rfl, (ren_keysD _ k2).symm, id⟩, ⟨_, rfl, rfl, rfl, id⟩, ⟨_, rfl, rfl, rfl, id⟩, ⟨_, rfl, rfl, rfl, id⟩, trivial⟩ rfl
      intro i hi
      obtain ⟨s1, s2⟩ := secI_length (out := out) hf htl (show o + 512 * j + 512 ≤ bs.length by omega) i hi
      rw [hl] at s1
      repeat first | (refine EffG.mk (And.intro ?_ ?_); focus ((repeat' (first | exact trivial | refine And.intro ?_ ?_)) <;> (first | omega | (simp only [hasTy, okP, lenD, D.ren, D.isCell, Option.getD, List.length_set, List.length_take, List.length_drop, List.length_append, List.length_replicate, List.length_map, List.length_cons, List.length_nil, Option.map] <;> omega) | with_reducible assumption | with_reducible rfl | decide); done)) | (refine And.intro ?_ ?_; focus ((repeat' (first | exact trivial | refine And.intro ?_ ?_)) <;> (first | omega | (simp only [hasTy, okP, lenD, D.ren, D.isCell, Option.getD, List.length_set, List.length_take, List.length_drop, List.length_append, List.length_replicate, List.length_map, List.length_cons, List.length_nil, Option.map] <;> omega) | with_reducible assumption | with_reducible rfl | decide); done)) | refine chkG (by kernel_rfl) ?_
      refine Br.split (fun h => ?_) (fun h => ?_)
      · have hi : i < 32 := by have := of_decide_eq_true h; omega
        have hs1 : (secI f bs (o + 512 * j) out t (i + 1)).1 = (secI f bs (o + 512 * j) out t i).1 ++ blkF f (secI f bs (o + 512 * j) out t i).2 ((bs.drop (o + 512 * j + 16 * i)).take 16) := rfl
        have hs2 : (secI f bs (o + 512 * j) out t (i + 1)).2 = twF (secI f bs (o + 512 * j) out t i).2 := rfl
        have hp : ((bs.drop (o + 512 * j + 16 * i)).take 16).length = 16 := by rw [List.length_take, List.length_drop]; omega
        generalize (secI f bs (o + 512 * j) out t i).1 = O at s1 hs1 ⊢
        generalize (secI f bs (o + 512 * j) out t i).2 = w at s2 hs1 hs2 ⊢
        have hq : (xorF ((bs.drop (o + 512 * j + 16 * i)).take 16) w).length = 16 := by rw [xorF_length, hp]
        have hfq := hf _ hq
        have hbl2 : (xorF (f (xorF ((bs.drop (o + 512 * j + 16 * i)).take 16) w)) w).length = 16 := by rw [xorF_length, hfq]
        have hwl := twF_length w
        rw [s2] at hwl
        repeat first | (refine EffG.mk (And.intro ?_ ?_); focus ((repeat' (first | exact trivial | refine And.intro ?_ ?_)) <;> (first | omega | (simp only [hasTy, okP, lenD, D.ren, D.isCell, Option.getD, List.length_set, List.length_take, List.length_drop, List.length_append, List.length_replicate, List.length_map, List.length_cons, List.length_nil, Option.map] <;> omega) | with_reducible assumption | with_reducible rfl | decide); done)) | (refine And.intro ?_ ?_; focus ((repeat' (first | exact trivial | refine And.intro ?_ ?_)) <;> (first | omega | (simp only [hasTy, okP, lenD, D.ren, D.isCell, Option.getD, List.length_set, List.length_take, List.length_drop, List.length_append, List.length_replicate, List.length_map, List.length_cons, List.length_nil, Option.map] <;> omega) | with_reducible assumption | with_reducible rfl | decide); done)) | refine chkG (by kernel_rfl) ?_
        refine callG (xxor_ac ((bs.drop (o + 512 * j + 16 * i)).take 16) w hp s2) [] rfl rfl trivial rfl rfl ?_
        repeat first | (refine EffG.mk (And.intro ?_ ?_); focus ((repeat' (first | exact trivial | refine And.intro ?_ ?_)) <;> (first | omega | (simp only [hasTy, okP, lenD, D.ren, D.isCell, Option.getD, List.length_set, List.length_take, List.length_drop, List.length_append, List.length_replicate, List.length_map, List.length_cons, List.length_nil, Option.map] <;> omega) | with_reducible assumption | with_reducible rfl | decide); done)) | (refine And.intro ?_ ?_; focus ((repeat' (first | exact trivial | refine And.intro ?_ ?_)) <;> (first | omega | (simp only [hasTy, okP, lenD, D.ren, D.isCell, Option.getD, List.length_set, List.length_take, List.length_drop, List.length_append, List.length_replicate, List.length_map, List.length_cons, List.length_nil, Option.map] <;> omega) | with_reducible assumption | with_reducible rfl | decide); done)) | refine chkG (by kernel_rfl) ?_
        refine callG (hg _ hq) [1] rfl rfl ⟨⟨_, rfl, rfl, (ren_keysD _ k1).symm, id⟩, trivial⟩ rfl rfl ?_
        repeat first | (refine EffG.mk (And.intro ?_ ?_); focus ((repeat' (first | exact trivial | refine And.intro ?_ ?_)) <;> (first | omega | (simp only [hasTy, okP, lenD, D.ren, D.isCell, Option.getD, List.length_set, List.length_take, List.length_drop, List.length_append, List.length_replicate, List.length_map, List.length_cons, List.length_nil, Option.map] <;> omega) | with_reducible assumption | with_reducible rfl | decide); done)) | (refine And.intro ?_ ?_; focus ((repeat' (first | exact trivial | refine And.intro ?_ ?_)) <;> (first | omega | (simp only [hasTy, okP, lenD, D.ren, D.isCell, Option.getD, List.length_set, List.length_take, List.length_drop, List.length_append, List.length_replicate, List.length_map, List.length_cons, List.length_nil, Option.map] <;> omega) | with_reducible assumption | with_reducible rfl | decide); done)) | refine chkG (by kernel_rfl) ?_
        refine callG (xxor_ac _ w hfq s2) [] rfl rfl trivial rfl rfl ?_
        repeat first | (refine EffG.mk (And.intro ?_ ?_); focus ((repeat' (first | exact trivial | refine And.intro ?_ ?_)) <;> (first | omega | (simp only [hasTy, okP, lenD, D.ren, D.isCell, Option.getD, List.length_set, List.length_take, List.length_drop, List.length_append, List.length_replicate, List.length_map, List.length_cons, List.length_nil, Option.map] <;> omega) | with_reducible assumption | with_reducible rfl | decide); done)) | (refine And.intro ?_ ?_; focus ((repeat' (first | exact trivial | refine And.intro ?_ ?_)) <;> (first | omega | (simp only [hasTy, okP, lenD, D.ren, D.isCell, Option.getD, List.length_set, List.length_take, List.length_drop, List.length_append, List.length_replicate, List.length_map, List.length_cons, List.length_nil, Option.map] <;> omega) | with_reducible assumption | with_reducible rfl | decide); done)) | refine chkG (by kernel_rfl) ?_
        refine ⟨0, ?_⟩
        repeat first | (refine EffG.mk (And.intro ?_ ?_); focus ((repeat' (first | exact trivial | refine And.intro ?_ ?_)) <;> (first | omega | (simp only [hasTy, okP, lenD, D.ren, D.isCell, Option.getD, List.length_set, List.length_take, List.length_drop, List.length_append, List.length_replicate, List.length_map, List.length_cons, List.length_nil, Option.map] <;> omega) | with_reducible assumption | with_reducible rfl | decide); done)) | (refine And.intro ?_ ?_; focus ((repeat' (first | exact trivial | refine And.intro ?_ ?_)) <;> (first | omega | (simp only [hasTy, okP, lenD, D.ren, D.isCell, Option.getD, List.length_set, List.length_take, List.length_drop, List.length_append, List.length_replicate, List.length_map, List.length_cons, List.length_nil, Option.map] <;> omega) | with_reducible assumption | with_reducible rfl | decide); done)) | refine chkG (by kernel_rfl) ?_
        refine callG (twice37_ac w s2) [] rfl rfl trivial rfl rfl ?_
        repeat first | (refine EffG.mk (And.intro ?_ ?_); focus ((repeat' (first | exact trivial | refine And.intro ?_ ?_)) <;> (first | omega | (simp only [hasTy, okP, lenD, D.ren, D.isCell, Option.getD, List.length_set, List.length_take, List.length_drop, List.length_append, List.length_replicate, List.length_map, List.length_cons, List.length_nil, Option.map] <;> omega) | with_reducible assumption | with_reducible rfl | decide); done)) | (refine And.intro ?_ ?_; focus ((repeat' (first | exact trivial | refine And.intro ?_ ?_)) <;> (first | omega | (simp only [hasTy, okP, lenD, D.ren, D.isCell, Option.getD, List.length_set, List.length_take, List.length_drop, List.length_append, List.length_replicate, List.length_map, List.length_cons, List.length_nil, Option.map] <;> omega) | with_reducible assumption | with_reducible rfl | decide); done)) | refine chkG (by kernel_rfl) ?_
        refine nextG (i + 1) [0, 1, 2, 3, 7, 5] ?_ ?_ ?_
        · omega
        · omega
        · refine viewG rfl ⟨rfl, rfl, rfl, rfl, slice_eqO rfl ?_ rfl, rfl, slice_eqO ?_ ?_ ?_, trivial⟩ ⟨⟨_, rfl, rfl, rfl, id⟩, ⟨_, rfl, rfl, (ren_keysD _ k1).symm, id⟩, ⟨_, rfl, rfl, (ren_keysD _ k2).symm, id⟩, ⟨_, rfl, rfl, rfl, id⟩, ⟨_, rfl, rfl, congrArg D.u8s ?_, id⟩, ⟨_, rfl, rfl, congrArg D.u8s hs2.symm, id⟩, trivial⟩ rfl
          · show 512 * j + 16 * i + 16 = 512 * j + 16 * (i + 1)
            omega
          · show o + 512 * j + 16 * i + 16 = o + 512 * j + 16 * (i + 1)
            omega
          · show ((512 - 16 * i : Nat) : Int).toNat - 16 = 512 - 16 * (i + 1)
            omega
          · show some (512 - 16 * i - 16) = some (512 - 16 * (i + 1))
            rw [show 512 - 16 * i - 16 = 512 - 16 * (i + 1) by omega]
          · rw [hs1]
            show List.take (512 * j + 16 * i) O ++ List.take 16 (blkF f w _) = _
            rw [List.take_of_length_le (by omega), List.take_of_length_le (by rw [blkF_length hf hp]; exact Nat.le_refl _)]
      · have hi : i = 32 := by have := of_decide_eq_false h; omega
        subst hi
        repeat first | (refine EffG.mk (And.intro ?_ ?_); focus ((repeat' (first | exact trivial | refine And.intro ?_ ?_)) <;> (first | omega | (simp only [hasTy, okP, lenD, D.ren, D.isCell, Option.getD, List.length_set, List.length_take, List.length_drop, List.length_append, List.length_replicate, List.length_map, List.length_cons, List.length_nil, Option.map] <;> omega) | with_reducible assumption | with_reducible rfl | decide); done)) | (refine And.intro ?_ ?_; focus ((repeat' (first | exact trivial | refine And.intro ?_ ?_)) <;> (first | omega | (simp only [hasTy, okP, lenD, D.ren, D.isCell, Option.getD, List.length_set, List.length_take, List.length_drop, List.length_append, List.length_replicate, List.length_map, List.length_cons, List.length_nil, Option.map] <;> omega) | with_reducible assumption | with_reducible rfl | decide); done)) | refine chkG (by kernel_rfl) ?_
        refine nextG (j + 1) [0, 1, 2, 3, 4] ?_ ?_ ?_
        · omega
        · omega
        · refine viewG rfl ⟨rfl, rfl, slice_eqO ?_ ?_ rfl, rfl, rfl, trivial⟩ ⟨⟨_, rfl, rfl, rfl, id⟩, ⟨_, rfl, rfl, (ren_keysD _ k1).symm, id⟩, ⟨_, rfl, rfl, (ren_keysD _ k2).symm, id⟩, ⟨_, rfl, rfl, rfl, id⟩, ⟨_, rfl, rfl, congrArg D.u8s hc.symm, id⟩, trivial⟩ rfl
          · show o + 512 * j + 512 = o + 512 * (j + 1)
            omega
          · show ((512 * m - 512 * j : Nat) : Int).toNat - 512 = 512 * m - 512 * (j + 1)
            omega
    · have hj : j = m := by have := of_decide_eq_false h; omega
      subst hj
      repeat first | (refine EffG.mk (And.intro ?_ ?_); focus ((repeat' (first | exact trivial | refine And.intro ?_ ?_)) <;> (first | omega | (simp only [hasTy, okP, lenD, D.ren, D.isCell, Option.getD, List.length_set, List.length_take, List.length_drop, List.length_append, List.length_replicate, List.length_map, List.length_cons, List.length_nil, Option.map] <;> omega) | with_reducible assumption | with_reducible rfl | decide); done)) | (refine And.intro ?_ ?_; focus ((repeat' (first | exact trivial | refine And.intro ?_ ?_)) <;> (first | omega | (simp only [hasTy, okP, lenD, D.ren, D.isCell, Option.getD, List.length_set, List.length_take, List.length_drop, List.length_append, List.length_replicate, List.length_map, List.length_cons, List.length_nil, Option.map] <;> omega) | with_reducible assumption | with_reducible rfl | decide); done)) | refine chkG (by kernel_rfl) ?_
      refine retG [0, 1, 2, 3, 4] ⟨rfl, rfl⟩ rfl ⟨⟨_, rfl, rfl, rfl, id⟩, ⟨_, rfl, rfl, rfl, id⟩, ⟨_, rfl, rfl, (ren_keysD _ k1).symm, id⟩, ⟨_, rfl, rfl, (ren_keysD _ k2).symm, id⟩, ⟨_, rfl, rfl, rfl, id⟩, trivial⟩ rfl
  · refine ac_of tab mix Tryd.func114 rfl (by kernel_rfl) (by kernel_rfl) (by kernel_rfl) {} ?_
    repeat first | rw [hrem] | (refine EffG.mk (And.intro ?_ ?_); focus ((repeat' (first | exact trivial | refine And.intro ?_ ?_)) <;> (first | omega | (simp only [hasTy, okP, lenD, D.ren, D.isCell, Option.getD, List.length_set, List.length_take, List.length_drop, List.length_append, List.length_replicate, List.length_map, List.length_cons, List.length_nil, Option.map] <;> omega) | with_reducible assumption | with_reducible rfl | decide); done)) | (refine And.intro ?_ ?_; focus ((repeat' (first | exact trivial | refine And.intro ?_ ?_)) <;> (first | omega | (simp only [hasTy, okP, lenD, D.ren, D.isCell, Option.getD, List.length_set, List.length_take, List.length_drop, List.length_append, List.length_replicate, List.length_map, List.length_cons, List.length_nil, Option.map] <;> omega) | with_reducible assumption | with_reducible rfl | decide); done)) | refine chkG (by kernel_rfl) ?_
    refine Br.no rfl ?_
    repeat first | (refine EffG.mk (And.intro ?_ ?_); focus ((repeat' (first | exact trivial | refine And.intro ?_ ?_)) <;> (first | omega | (simp only [hasTy, okP, lenD, D.ren, D.isCell, Option.getD, List.length_set, List.length_take, List.length_drop, List.length_append, List.length_replicate, List.length_map, List.length_cons, List.length_nil, Option.map] <;> omega) | with_reducible assumption | with_reducible rfl | decide); done)) | (refine And.intro ?_ ?_; focus ((repeat' (first | exact trivial | refine And.intro ?_ ?_)) <;> (first | omega | (simp only [hasTy, okP, lenD, D.ren, D.isCell, Option.getD, List.length_set, List.length_take, List.length_drop, List.length_append, List.length_replicate, List.length_map, List.length_cons, List.length_nil, Option.map] <;> omega) | with_reducible assumption | with_reducible rfl | decide); done)) | refine chkG (by kernel_rfl) ?_
    refine Br.no rfl ?_
    repeat first | (refine EffG.mk (And.intro ?_ ?_); focus ((repeat' (first | exact trivial | refine And.intro ?_ ?_)) <;> (first | omega | (simp only [hasTy, okP, lenD, D.ren, D.isCell, Option.getD, List.length_set, List.length_take, List.length_drop, List.length_append, List.length_replicate, List.length_map, List.length_cons, List.length_nil, Option.map] <;> omega) | with_reducible assumption | with_reducible rfl | decide); done)) | (refine And.intro ?_ ?_; focus ((repeat' (first | exact trivial | refine And.intro ?_ ?_)) <;> (first | omega | (simp only [hasTy, okP, lenD, D.ren, D.isCell, Option.getD, List.length_set, List.length_take, List.length_drop, List.length_append, List.length_replicate, List.length_map, List.length_cons, List.length_nil, Option.map] <;> omega) | with_reducible assumption | with_reducible rfl | decide); done)) | refine chkG (by kernel_rfl) ?_
    refine Br.no rfl ?_
    repeat first | (refine EffG.mk (And.intro ?_ ?_); focus ((repeat' (first | exact trivial | refine And.intro ?_ ?_)) <;> (first | omega | (simp only [hasTy, okP, lenD, D.ren, D.isCell, Option.getD, List.length_set, List.length_take, List.length_drop, List.length_append, List.length_replicate, List.length_map, List.length_cons, List.length_nil, Option.map] <;> omega) | with_reducible assumption | with_reducible rfl | decide); done)) | (refine And.intro ?_ ?_; focus ((repeat' (first | exact trivial | refine And.intro ?_ ?_)) <;> (first | omega | (simp only [hasTy, okP, lenD, D.ren, D.isCell, Option.getD, List.length_set, List.length_take, List.length_drop, List.length_append, List.length_replicate, List.length_map, List.length_cons, List.length_nil, Option.map] <;> omega) | with_reducible assumption | with_reducible rfl | decide); done)) | refine chkG (by kernel_rfl) ?_
    refine Br.no (decide_eq_false (by omega)) ?_
    repeat first | (refine EffG.mk (And.intro ?_ ?_); focus ((repeat' (first | exact trivial | refine And.intro ?_ ?_)) <;> (first | omega | (simp only [hasTy, okP, lenD, D.ren, D.isCell, Option.getD, List.length_set, List.length_take, List.length_drop, List.length_append, List.length_replicate, List.length_map, List.length_cons, List.length_nil, Option.map] <;> omega) | with_reducible assumption | with_reducible rfl | decide); done)) | (refine And.intro ?_ ?_; focus ((repeat' (first | exact trivial | refine And.intro ?_ ?_)) <;> (first | omega | (simp only [hasTy, okP, lenD, D.ren, D.isCell, Option.getD, List.length_set, List.length_take, List.length_drop, List.length_append, List.length_replicate, List.length_map, List.length_cons, List.length_nil, Option.map] <;> omega) | with_reducible assumption | with_reducible rfl | decide); done)) | refine chkG (by kernel_rfl) ?_
    refine loopG Nat (fun j => [(0, .ptr 0 []), (1, .u64 (s + BitVec.ofNat 64 j)), (2, .slice 3 [] (o + 512 * j) (512 * m - 512 * j) (capI cap j)), (3, .fn g [.ptr 1 []] []), (10, .slice 4 [] 0 (512 * j) none)])
      (fun j => [(0, some ⟨tX, .node [.ptr 1 [], .ptr 2 []], true⟩), (1, some ⟨tC, keysD k1, true⟩), (2, some ⟨tC, keysD k2, true⟩), (3, some ⟨.arr n .cell, .u8s bs, false⟩), (4, some ⟨.row .cell, .u8s (ovI f k2 bs o s j), true⟩)]) 5
      (fun j => j ≤ m) (fun j => m - j) 0 [0, 1, 2, 3, 4] (Nat.zero_le _) ?_ ?_
    · refine viewG rfl ⟨rfl, congrArg (fun x => some (D.u64 x)) (BitVec.add_zero s).symm, rfl, rfl, rfl, trivial⟩ ⟨⟨_, rfl, rfl, rfl, id⟩, ⟨_, rfl, rfl, (ren_keysD _ k1).symm, id⟩, ⟨_, rfl, rfl, (ren_keysD _ k2).symm, id⟩, ⟨_, rfl, rfl, rfl, id⟩, ⟨_, rfl, rfl, rfl, id⟩, trivial⟩ rfl
    intro j hj
    have hl := ovI_length hf k2 s hm j hj
    repeat first | (refine EffG.mk (And.intro ?_ ?_); focus ((repeat' (first | exact trivial | refine And.intro ?_ ?_)) <;> (first | omega | (simp only [hasTy, okP, lenD, D.ren, D.isCell, Option.getD, List.length_set, List.length_take, List.length_drop, List.length_append, List.length_replicate, List.length_map, List.length_cons, List.length_nil, Option.map] <;> omega) | with_reducible assumption | with_reducible rfl | decide); done)) | (refine And.intro ?_ ?_; focus ((repeat' (first | exact trivial | refine And.intro ?_ ?_)) <;> (first | omega | (simp only [hasTy, okP, lenD, D.ren, D.isCell, Option.getD, List.length_set, List.length_take, List.length_drop, List.length_append, List.length_replicate, List.length_map, List.length_cons, List.length_nil, Option.map] <;> omega) | with_reducible assumption | with_reducible rfl | decide); done)) | refine chkG (by kernel_rfl) ?_
    refine Br.split (fun h => ?_) (fun h => ?_)
    · have hj : j < m := by have := of_decide_eq_true h; omega
      have hc : ovI f k2 bs o s (j + 1) = (secI f bs (o + 512 * j) (ovI f k2 bs o s j) (encI k2 (firF (s + BitVec.ofNat 64 j)) 14) 32).1 := rfl
      generalize ovI f k2 bs o s j = out at hl hc ⊢
      have hfa := first_ac k2 (s + BitVec.ofNat 64 j) h2
      have htl := encI_length k2 _ (firF_length (s + BitVec.ofNat 64 j)) 14
      generalize encI k2 (firF (s + BitVec.ofNat 64 j)) 14 = t at hc hfa htl
      repeat first | (refine EffG.mk (And.intro ?_ ?_); focus ((repeat' (first | exact trivial | refine And.intro ?_ ?_)) <;> (first | omega | (simp only [hasTy, okP, lenD, D.ren, D.isCell, Option.getD, List.length_set, List.length_take, List.length_drop, List.length_append, List.length_replicate, List.length_map, List.length_cons, List.length_nil, Option.map] <;> omega) | with_reducible assumption | with_reducible rfl | decide); done)) | (refine And.intro ?_ ?_; focus ((repeat' (first | exact trivial | refine And.intro ?_ ?_)) <;> (first | omega | (simp only [hasTy, okP, lenD, D.ren, D.isCell, Option.getD, List.length_set, List.length_take, List.length_drop, List.length_append, List.length_replicate, List.length_map, List.length_cons, List.length_nil, Option.map] <;> omega) | with_reducible assumption | with_reducible rfl | decide); done)) | refine chkG (by kernel_rfl) ?_
      refine callG hfa [0, 1, 2] rfl rfl ⟨⟨_, rfl, rfl, rfl, id⟩, ⟨_, rfl, rfl, (ren_keysD _ k2).symm, id⟩, trivial⟩ rfl rfl ?_
      repeat first | (refine EffG.mk (And.intro ?_ ?_); focus ((repeat' (first | exact trivial | refine And.intro ?_ ?_)) <;> (first | omega | (simp only [hasTy, okP, lenD, D.ren, D.isCell, Option.getD, List.length_set, List.length_take, List.length_drop, List.length_append, List.length_replicate, List.length_map, List.length_cons, List.length_nil, Option.map] <;> omega) | with_reducible assumption | with_reducible rfl | decide); done)) | (refine And.intro ?_ ?_; focus ((repeat' (first | exact trivial | refine And.intro ?_ ?_)) <;> (first | omega | (simp only [hasTy, okP, lenD, D.ren, D.isCell, Option.getD, List.length_set, List.length_take, List.length_drop, List.length_append, List.length_replicate, List.length_map, List.length_cons, List.length_nil, Option.map] <;> omega) | with_reducible assumption | with_reducible rfl | decide); done)) | refine chkG (by kernel_rfl) ?_
      have hu : s + BitVec.ofNat 64 j + BitVec.ofNat 64 (Int.toNat 1) = s + BitVec.ofNat 64 (j + 1) := by
        rw [BitVec.add_assoc, ← BitVec.ofNat_add]; rfl
      refine loopG Nat (fun i => [(0, .ptr 0 []), (1, .u64 (s + BitVec.ofNat 64 (j + 1))), (2, .slice 3 [] (o + 512 * j) (512 * m - 512 * j) (capI cap j)), (3, .fn g [.ptr 1 []] []), (10, .slice 4 [] 0 (512 * j + 16 * i) none), (11, .ptr 5 []),
          (12, .slice 3 [] (o + 512 * j + 16 * i) (512 - 16 * i) (some (512 - 16 * i)))])
        (fun i => [(0, some ⟨tX, .node [.ptr 1 [], .ptr 2 []], true⟩), (1, some ⟨tC, keysD k1, true⟩), (2, some ⟨tC, keysD k2, true⟩), (3, some ⟨.arr n .cell, .u8s bs, false⟩), (4, some ⟨.row .cell, .u8s (secI f bs (o + 512 * j) out t i).1, true⟩),
          (5, some ⟨t16, .u8s (secI f bs (o + 512 * j) out t i).2, true⟩)]) 6 (fun i => i ≤ 32) (fun i => 32 - i) 0 [0, 1, 2, 3, 4, 5] (Nat.zero_le _) ?_ ?_
      · refine viewG rfl ⟨rfl, congrArg (fun x => some (D.u64 x)) hu, rfl, rfl, rfl, rfl, slice_eqO rfl rfl rfl, trivial⟩ ⟨⟨_, rfl, rfl, rfl, id⟩, ⟨_, rfl, rfl, (ren_keysD _ k1).symm, id⟩, ⟨_, rfl, rfl, (ren_keysD _ k2).symm, id⟩, ⟨_, rfl, rfl, rfl, id⟩, ⟨_, rfl, rfl, rfl, id⟩, ⟨_, rfl, rfl, rfl, id⟩, trivial⟩ rfl
      intro i hi
      obtain ⟨s1, s2⟩ := secI_length (out := out) hf htl (show o + 512 * j + 512 ≤ bs.length by omega) i hi
      rw [hl] at s1
      repeat first | (refine EffG.mk (And.intro ?_ ?_); focus ((repeat' (first | exact trivial | refine And.intro ?_ ?_)) <;> (first | omega | (simp only [hasTy, okP, lenD, D.ren, D.isCell, Option.getD, List.length_set, List.length_take, List.length_drop, List.length_append, List.length_replicate, List.length_map, List.length_cons, List.length_nil, Option.map] <;> omega) | with_reducible assumption | with_reducible rfl | decide); done)) | (refine And.intro ?_ ?_; focus ((repeat' (first | exact trivial | refine And.intro ?_ ?_)) <;> (first | omega | (simp only [hasTy, okP, lenD, D.ren, D.isCell, Option.getD, List.length_set, List.length_take, List.length_drop, List.length_append, List.length_replicate, List.length_map, List.length_cons, List.length_nil, Option.map] <;> omega) | with_reducible assumption | with_reducible rfl | decide); done)) | refine chkG (by kernel_rfl) ?_
      refine Br.split (fun h => ?_) (fun h => ?_)
      · have hi : i < 32 := by have := of_decide_eq_true h; omega
        have hs1 : (secI f bs (o + 512 * j) out t (i + 1)).1 = (secI f bs (o + 512 * j) out t i).1 ++ blkF f (secI f bs (o + 512 * j) out t i).2 ((bs.drop (o + 512 * j + 16 * i)).take 16) := rfl
        have hs2 : (secI f bs (o + 512 * j) out t (i + 1)).2 = twF (secI f bs (o + 512 * j) out t i).2 := rfl
        have hp : ((bs.drop (o + 512 * j + 16 * i)).take 16).length = 16 := by rw [List.length_take, List.length_drop]; omega
        generalize (secI f bs (o + 512 * j) out t i).1 = O at s1 hs1 ⊢
        generalize (secI f bs (o + 512 * j) out t i).2 = w at s2 hs1 hs2 ⊢
        have hq : (xorF ((bs.drop (o + 512 * j + 16 * i)).take 16) w).length = 16 := by rw [xorF_length, hp]
        have hfq := hf _ hq
        have hbl2 : (xorF (f (xorF ((bs.drop (o + 512 * j + 16 * i)).take 16) w)) w).length = 16 := by rw [xorF_length, hfq]
        have hwl := twF_length w
        rw [s2] at hwl
        repeat first | (refine EffG.mk (And.intro ?_ ?_); focus ((repeat' (first | exact trivial | refine And.intro ?_ ?_)) <;> (first | omega | (simp only [hasTy, okP, lenD, D.ren, D.isCell, Option.getD, List.length_set, List.length_take, List.length_drop, List.length_append, List.length_replicate, List.length_map, List.length_cons, List.length_nil, Option.map] <;> omega) | with_reducible assumption | with_reducible rfl | decide); done)) | (refine And.intro ?_ ?_; focus ((repeat' (first | exact trivial | refine And.intro ?_ ?_)) <;> (first | omega | (simp only [hasTy, okP, lenD, D.ren, D.isCell, Option.getD, List.length_set, List.length_take, List.length_drop, List.length_append, List.length_replicate, List.length_map, List.length_cons, List.length_nil, Option.map] <;> omega) | with_reducible assumption | with_reducible rfl | decide); done)) | refine chkG (by kernel_rfl) ?_
        refine callG (xxor_ac ((bs.drop (o + 512 * j + 16 * i)).take 16) w hp s2) [] rfl rfl trivial rfl rfl ?_
        repeat first | (refine EffG.mk (And.intro ?_ ?_); focus ((repeat' (first | exact trivial | refine And.intro ?_ ?_)) <;> (first | omega | (simp only [hasTy, okP, lenD, D.ren, D.isCell, Option.getD, List.length_set, List.length_take, List.length_drop, List.length_append, List.length_replicate, List.length_map, List.length_cons, List.length_nil, Option.map] <;> omega) | with_reducible assumption | with_reducible rfl | decide); done)) | (refine And.intro ?_ ?_; focus ((repeat' (first | exact trivial | refine And.intro ?_ ?_)) <;> (first | omega | (simp only [hasTy, okP, lenD, D.ren, D.isCell, Option.getD, List.length_set, List.length_take, List.length_drop, List.length_append, List.length_replicate, List.length_map, List.length_cons, List.length_nil, Option.map] <;> omega) | with_reducible assumption | with_reducible rfl | decide); done)) | refine chkG (by kernel_rfl) ?_
        refine callG (hg _ hq) [1] rfl rfl ⟨⟨_, rfl, rfl, (ren_keysD _ k1).symm, id⟩, trivial⟩ rfl rfl ?_
        repeat first | (refine EffG.mk (And.intro ?_ ?_); focus ((repeat' (first | exact trivial | refine And.intro ?_ ?_)) <;> (first | omega | (simp only [hasTy, okP, lenD, D.ren, D.isCell, Option.getD, List.length_set, List.length_take, List.length_drop, List.length_append, List.length_replicate, List.length_map, List.length_cons, List.length_nil, Option.map] <;> omega) | with_reducible assumption | with_reducible rfl | decide); done)) | (refine And.intro ?_ ?_; focus ((repeat' (first | exact trivial | refine And.intro ?_ ?_)) <;> (first | omega | (simp only [hasTy, okP, lenD, D.ren, D.isCell, Option.getD, List.length_set, List.length_take, List.length_drop, List.length_append, List.length_replicate, List.length_map, List.length_cons, List.length_nil, Option.map] <;> omega) | with_reducible assumption | with_reducible rfl | decide); done)) | refine chkG (by kernel_rfl) ?_
        refine callG (xxor_ac _ w hfq s2) [] rfl rfl trivial rfl rfl ?_
        repeat first | (refine EffG.mk (And.intro ?_ ?_); focus ((repeat' (first | exact trivial | refine And.intro ?_ ?_)) <;> (first | omega | (simp only [hasTy, okP, lenD, D.ren, D.isCell, Option.getD, List.length_set, List.length_take, List.length_drop, List.length_append, List.length_replicate, List.length_map, List.length_cons, List.length_nil, Option.map] <;> omega) | with_reducible assumption | with_reducible rfl | decide); done)) | (refine And.intro ?_ ?_; focus ((repeat' (first | exact trivial | refine And.intro ?_ ?_)) <;> (first | omega | (simp only [hasTy, okP, lenD, D.ren, D.isCell, Option.getD, List.length_set, List.length_take, List.length_drop, List.length_append, List.length_replicate, List.length_map, List.length_cons, List.length_nil, Option.map] <;> omega) | with_reducible assumption | with_reducible rfl | decide); done)) | refine chkG (by kernel_rfl) ?_
        refine ⟨0, ?_⟩
        repeat first | (refine EffG.mk (And.intro ?_ ?_); focus ((repeat' (first | exact trivial | refine And.intro ?_ ?_)) <;> (first | omega | (simp only [hasTy, okP, lenD, D.ren, D.isCell, Option.getD, List.length_set, List.length_take, List.length_drop, List.length_append, List.length_replicate, List.length_map, List.length_cons, List.length_nil, Option.map] <;> omega) | with_reducible assumption | with_reducible rfl | decide); done)) | (refine And.intro ?_ ?_; focus ((repeat' (first | exact trivial | refine And.intro ?_ ?_)) <;> (first | omega | (simp only [hasTy, okP, lenD, D.ren, D.isCell, Option.getD, List.length_set, List.length_take, List.length_drop, List.length_append, List.length_replicate, List.length_map, List.length_cons, List.length_nil, Option.map] <;> omega) | with_reducible assumption | with_reducible rfl | decide); done)) | refine chkG (by kernel_rfl) ?_
        refine callG (twice37_ac w s2) [] rfl rfl trivial rfl rfl ?_
        repeat first | (refine EffG.mk (And.intro ?_ ?_); focus ((repeat' (first | exact trivial | refine And.intro ?_ ?_)) <;> (first | omega | (simp only [hasTy, okP, lenD, D.ren, D.isCell, Option.getD, List.length_set, List.length_take, List.length_drop, List.length_append, List.length_replicate, List.length_map, List.length_cons, List.length_nil, Option.map] <;> omega) | with_reducible assumption | with_reducible rfl | decide); done)) | (refine And.intro ?_ ?_; focus ((repeat' (first | exact trivial | refine And.intro ?_ ?_)) <;> (first | omega | (simp only [hasTy, okP, lenD, D.ren, D.isCell, Option.getD, List.length_set, List.length_take, List.length_drop, List.length_append, List.length_replicate, List.length_map, List.length_cons, List.length_nil, Option.map] <;> omega) | with_reducible assumption | with_reducible rfl | decide); done)) | refine chkG (by kernel_rfl) ?_
        refine nextG (i + 1) [0, 1, 2, 3, 7, 5] ?_ ?_ ?_
        · omega
        · omega
        · refine viewG rfl ⟨rfl, rfl, rfl, rfl, slice_eqO rfl ?_ rfl, rfl, slice_eqO ?_ ?_ ?_, trivial⟩ ⟨⟨_, rfl, rfl, rfl, id⟩, ⟨_, rfl, rfl, (ren_keysD _ k1).symm, id⟩, ⟨_, rfl, rfl, (ren_keysD _ k2).symm, id⟩, ⟨_, rfl, rfl, rfl, id⟩, ⟨_, rfl, rfl, congrArg D.u8s ?_, id⟩, ⟨_, rfl, rfl, congrArg D.u8s hs2.symm, id⟩, trivial⟩ rfl
          · show 512 * j + 16 * i + 16 = 512 * j + 16 * (i + 1)
            omega
          · show o + 512 * j + 16 * i + 16 = o + 512 * j + 16 * (i + 1)
            omega
          · show ((512 - 16 * i : Nat) : Int).toNat - 16 = 512 - 16 * (i + 1)
            omega
          · show some (512 - 16 * i - 16) = some (512 - 16 * (i + 1))
            rw [show 512 - 16 * i - 16 = 512 - 16 * (i + 1) by omega]
          · rw [hs1]
            show List.take (512 * j + 16 * i) O ++ List.take 16 (blkF f w _) = _
            rw [List.take_of_length_le (by omega), List.take_of_length_le (by rw [blkF_length hf hp]; exact Nat.le_refl _)]
      · have hi : i = 32 := by have := of_decide_eq_false h; omega
        subst hi
        repeat first | (refine EffG.mk (And.intro ?_ ?_); focus ((repeat' (first | exact trivial | refine And.intro ?_ ?_)) <;> (first | omega | (simp only [hasTy, okP, lenD, D.ren, D.isCell, Option.getD, List.length_set, List.length_take, List.length_drop, List.length_append, List.length_replicate, List.length_map, List.length_cons, List.length_nil, Option.map] <;> omega) | with_reducible assumption | with_reducible rfl | decide); done)) | (refine And.intro ?_ ?_; focus ((repeat' (first | exact trivial | refine And.intro ?_ ?_)) <;> (first | omega | (simp only [hasTy, okP, lenD, D.ren, D.isCell, Option.getD, List.length_set, List.length_take, List.length_drop, List.length_append, List.length_replicate, List.length_map, List.length_cons, List.length_nil, Option.map] <;> omega) | with_reducible assumption | with_reducible rfl | decide); done)) | refine chkG (by kernel_rfl) ?_
        refine nextG (j + 1) [0, 1, 2, 3, 4] ?_ ?_ ?_
        · omega
        · omega
        · refine viewG rfl ⟨rfl, rfl, slice_eqO ?_ ?_ rfl, rfl, rfl, trivial⟩ ⟨⟨_, rfl, rfl, rfl, id⟩, ⟨_, rfl, rfl, (ren_keysD _ k1).symm, id⟩, ⟨_, rfl, rfl, (ren_keysD _ k2).symm, id⟩, ⟨_, rfl, rfl, rfl, id⟩, ⟨_, rfl, rfl, congrArg D.u8s hc.symm, id⟩, trivial⟩ rfl
          · show o + 512 * j + 512 = o + 512 * (j + 1)
            omega
          · show ((512 * m - 512 * j : Nat) : Int).toNat - 512 = 512 * m - 512 * (j + 1)
            omega
    · have hj : j = m := by have := of_decide_eq_false h; omega
      subst hj
      repeat first | (refine EffG.mk (And.intro ?_ ?_); focus ((repeat' (first | exact trivial | refine And.intro ?_ ?_)) <;> (first | omega | (simp only [hasTy, okP, lenD, D.ren, D.isCell, Option.getD, List.length_set, List.length_take, List.length_drop, List.length_append, List.length_replicate, List.length_map, List.length_cons, List.length_nil, Option.map] <;> omega) | with_reducible assumption | with_reducible rfl | decide); done)) | (refine And.intro ?_ ?_; focus ((repeat' (first | exact trivial | refine And.intro ?_ ?_)) <;> (first | omega | (simp only [hasTy, okP, lenD, D.ren, D.isCell, Option.getD, List.length_set, List.length_take, List.length_drop, List.length_append, List.length_replicate, List.length_map, List.length_cons, List.length_nil, Option.map] <;> omega) | with_reducible assumption | with_reducible rfl | decide); done)) | refine chkG (by kernel_rfl) ?_
      refine retG [0, 1, 2, 3, 4] ⟨rfl, rfl⟩ rfl ⟨⟨_, rfl, rfl, rfl, id⟩, ⟨_, rfl, rfl, rfl, id⟩, ⟨_, rfl, rfl, (ren_keysD _ k1).symm, id⟩, ⟨_, rfl, rfl, (ren_keysD _ k2).symm, id⟩, ⟨_, rfl, rfl, rfl, id⟩, trivial⟩ rfl
end Go.Proofs.YtodkhgofmgaafaaDoor.Av

namespace Go.Proofs.YtodkhgofmgaafaaDoor.Av
open Go
set_option linter.all false
set_option maxRecDepth 3000

/-! what sealed sectors are, with no program in sight -/
def catB (B : Nat → List (BitVec 8)) : Nat → List (BitVec 8)
  | 0 => []
  | n + 1 => catB B n ++ B n
def twN (t : List (BitVec 8)) : Nat → List (BitVec 8)
  | 0 => t
  | n + 1 => twF (twN t n)
def chunk (l : List (BitVec 8)) (o : Nat) : List (BitVec 8) := (l.drop o).take 16
/-- a block's tweak, by the block's place -/
def twK (k2 : List (List (BitVec 8))) (s : BitVec 64) (k : Nat) : List (BitVec 8) := twN (encI k2 (firF (s + BitVec.ofNat 64 (k / 32))) 14) (k % 32)
def blkK (f : List (BitVec 8) → List (BitVec 8)) (k2 : List (List (BitVec 8))) (bs : List (BitVec 8)) (o : Nat) (s : BitVec 64) (k : Nat) : List (BitVec 8) := blkF f (twK k2 s k) (chunk bs (o + 16 * k))

theorem secI_tw (f : List (BitVec 8) → List (BitVec 8)) (bs : List (BitVec 8)) (o : Nat) (out t : List (BitVec 8)) : ∀ i, (secI f bs o out t i).2 = twN t i
  | 0 => rfl
  | i + 1 => by
    show twF (secI f bs o out t i).2 = twF (twN t i)
    rw [secI_tw f bs o out t i]
theorem secI_cat (f : List (BitVec 8) → List (BitVec 8)) (k2 : List (List (BitVec 8))) (bs : List (BitVec 8)) (o : Nat) (s : BitVec 64) (j : Nat) (out : List (BitVec 8)) (hout : out = catB (blkK f k2 bs o s) (32 * j)) :
    ∀ i, i ≤ 32 → (secI f bs (o + 512 * j) out (encI k2 (firF (s + BitVec.ofNat 64 j)) 14) i).1 = catB (blkK f k2 bs o s) (32 * j + i)
  | 0, _ => hout
  | i + 1, hi => by
    have ih := secI_cat f k2 bs o s j out hout i (by omega)
    have ht := secI_tw f bs (o + 512 * j) out (encI k2 (firF (s + BitVec.ofNat 64 j)) 14) i
    have e1 : (32 * j + i) / 32 = j := by omega
    have e2 : (32 * j + i) % 32 = i := by omega
    have e3 : o + 512 * j + 16 * i = o + 16 * (32 * j + i) := by omega
    rw [secI, ih, ht, e3]
    show _ = catB (blkK f k2 bs o s) (32 * j + i) ++ blkK f k2 bs o s (32 * j + i)
    unfold blkK twK
    rw [e1, e2]
    rfl
theorem ovI_cat (f : List (BitVec 8) → List (BitVec 8)) (k2 : List (List (BitVec 8))) (bs : List (BitVec 8)) (o : Nat) (s : BitVec 64) : ∀ j, ovI f k2 bs o s j = catB (blkK f k2 bs o s) (32 * j)
  | 0 => rfl
  | j + 1 => by
    rw [ovI, secI_cat f k2 bs o s j _ (ovI_cat f k2 bs o s j) 32 (Nat.le_refl _)]
    rfl

theorem catB_length {B : Nat → List (BitVec 8)} : ∀ {n : Nat}, (∀ k, k < n → (B k).length = 16) → (catB B n).length = 16 * n
  | 0, _ => rfl
  | n + 1, h => by
    rw [catB, List.length_append, catB_length (fun k hk => h k (by omega)), h n (by omega)]; omega
theorem catB_congr {B C : Nat → List (BitVec 8)} : ∀ {n : Nat}, (∀ k, k < n → B k = C k) → catB B n = catB C n
  | 0, _ => rfl
  | n + 1, h => by rw [catB, catB, catB_congr (fun k hk => h k (by omega)), h n (by omega)]
theorem catB_chunk {B : Nat → List (BitVec 8)} : ∀ {n : Nat}, (∀ k, k < n → (B k).length = 16) → ∀ k, k < n → chunk (catB B n) (16 * k) = B k
  | 0, _, k, hk => by omega
  | n + 1, h, k, hk => by
    have hl := catB_length (n := n) (fun k hk => h k (by omega))
    unfold chunk
    rw [catB]
    by_cases hkn : k = n
    · subst hkn
      rw [List.drop_append_of_le_length (by omega), List.drop_eq_nil_of_le (by omega), List.nil_append, List.take_of_length_le (by rw [h k (by omega)]; exact Nat.le_refl _)]
    · rw [List.drop_append_of_le_length (by omega), List.take_append_of_le_length (by rw [List.length_drop]; omega)]
      exact catB_chunk (fun k hk => h k (by omega)) k (by omega)
theorem catB_take (l : List (BitVec 8)) (o : Nat) : ∀ n, o + 16 * n ≤ l.length → catB (fun k => chunk l (o + 16 * k)) n = (l.drop o).take (16 * n)
  | 0, _ => by simp [catB]
  | n + 1, h => by
    rw [catB, catB_take l o n (by omega), show 16 * (n + 1) = 16 * n + 16 by omega, List.take_add, List.drop_drop]
    rfl
theorem chunk_length {l : List (BitVec 8)} {o : Nat} (h : o + 16 ≤ l.length) : (chunk l o).length = 16 := by
  unfold chunk; rw [List.length_take, List.length_drop]; omega

theorem blk_back {f g : List (BitVec 8) → List (BitVec 8)} (hf : ∀ p, p.length = 16 → (f p).length = 16) (hgf : ∀ p, p.length = 16 → g (f p) = p) {t p : List (BitVec 8)} (hp : p.length = 16) : blkF g t (blkF f t p) = p := by
  unfold blkF
  rw [xor_xor _ _ (hf _ (by rw [xorF_length, hp])), hgf _ (by rw [xorF_length, hp]), xor_xor _ _ hp]

theorem ov_back {f g : List (BitVec 8) → List (BitVec 8)} (hf : ∀ p, p.length = 16 → (f p).length = 16) (hgf : ∀ p, p.length = 16 → g (f p) = p) (k2 : List (List (BitVec 8))) (bs : List (BitVec 8)) (o m : Nat) (s : BitVec 64) (hm : o + 512 * m ≤ bs.length) :
    ovI g k2 (ovI f k2 bs o s m) 0 s m = (bs.drop o).take (512 * m) := by
  have hlen : ∀ k, k < 32 * m → (blkK f k2 bs o s k).length = 16 := fun k hk => blkF_length hf (chunk_length (by omega))
  rw [ovI_cat g, ovI_cat f]
  have e : catB (blkK g k2 (catB (blkK f k2 bs o s) (32 * m)) 0 s) (32 * m) = catB (fun k => chunk bs (o + 16 * k)) (32 * m) := by
    refine catB_congr fun k hk => ?_
    have h1 := catB_chunk hlen k hk
    show blkF g (twK k2 s k) (chunk (catB (blkK f k2 bs o s) (32 * m)) (0 + 16 * k)) = _
    rw [Nat.zero_add, h1]
    exact blk_back hf hgf (chunk_length (by omega))
  rw [e, catB_take bs o (32 * m) (by omega), show 16 * (32 * m) = 512 * m by omega]
end Go.Proofs.YtodkhgofmgaafaaDoor.Av

namespace Go.Proofs.YtodkhgofmgaafaaDoor.Av
open Go
set_option linter.all false
set_option maxRecDepth 3000

abbrev xMem (k1 k2 : List (List (BitVec 8))) (T : Ty) (bs : List (BitVec 8)) : Mem :=
  [(0, some ⟨tX, .node [.ptr 1 [], .ptr 2 []], true⟩), (1, some ⟨tC, keysD k1, true⟩), (2, some ⟨tC, keysD k2, true⟩), (3, some ⟨T, .u8s bs, false⟩)]
def encF (k : List (List (BitVec 8))) (p : List (BitVec 8)) : List (BitVec 8) := encI k p 14

theorem xnew_ac (a b : List (BitVec 8)) (ha : a.length = 32) (hb : b.length = 32) : AC Tryd.prog 75 [.u8s a, .u8s b] 0 []
    ⟨.ptr 0 [], [], [(tX, .node [.ptr 1 [], .ptr 2 []]), (tC, keysD (schedF a)), (tC, keysD (schedF b))]⟩ := by
  have n1 := new_ac a ha
  have n2 := new_ac b hb
  generalize schedF a = k1 at n1 ⊢
  generalize schedF b = k2 at n2 ⊢
  refine ac_of tab mix Tryd.func75 rfl (by kernel_rfl) (by kernel_rfl) (by kernel_rfl) {} ?_
  repeat first | (refine EffG.mk (And.intro ?_ ?_); focus ((repeat' (first | exact trivial | refine And.intro ?_ ?_)) <;> (first | omega | (simp only [hasTy, okP, lenD, D.ren, D.isCell, Option.getD, List.length_set, List.length_take, List.length_drop, List.length_append, List.length_replicate, List.length_map, List.length_cons, List.length_nil, Option.map] <;> omega) | with_reducible assumption | with_reducible rfl | decide); done)) | (refine And.intro ?_ ?_; focus ((repeat' (first | exact trivial | refine And.intro ?_ ?_)) <;> (first | omega | (simp only [hasTy, okP, lenD, D.ren, D.isCell, Option.getD, List.length_set, List.length_take, List.length_drop, List.length_append, List.length_replicate, List.length_map, List.length_cons, List.length_nil, Option.map] <;> omega) | with_reducible assumption | with_reducible rfl | decide); done)) | refine chkG (by kernel_rfl) ?_
  refine callR n1 [] (.ptr 2 []) [(2, some ⟨tC, keysD k1, true⟩)] rfl rfl trivial rfl rfl rfl (congrArg (fun d => ([(2, some ⟨tC, d, true⟩)] : Mem)) (ren_keysD _ k1)) ?_
  repeat first | (refine EffG.mk (And.intro ?_ ?_); focus ((repeat' (first | exact trivial | refine And.intro ?_ ?_)) <;> (first | omega | (simp only [hasTy, okP, lenD, D.ren, D.isCell, Option.getD, List.length_set, List.length_take, List.length_drop, List.length_append, List.length_replicate, List.length_map, List.length_cons, List.length_nil, Option.map] <;> omega) | with_reducible assumption | with_reducible rfl | decide); done)) | (refine And.intro ?_ ?_; focus ((repeat' (first | exact trivial | refine And.intro ?_ ?_)) <;> (first | omega | (simp only [hasTy, okP, lenD, D.ren, D.isCell, Option.getD, List.length_set, List.length_take, List.length_drop, List.length_append, List.length_replicate, List.length_map, List.length_cons, List.length_nil, Option.map] <;> omega) | with_reducible assumption | with_reducible rfl | decide); done)) | refine chkG (by kernel_rfl) ?_
  refine callR n2 [] (.ptr 3 []) [(3, some ⟨tC, keysD k2, true⟩)] rfl rfl trivial rfl rfl rfl (congrArg (fun d => ([(3, some ⟨tC, d, true⟩)] : Mem)) (ren_keysD _ k2)) ?_
  repeat first | (refine EffG.mk (And.intro ?_ ?_); focus ((repeat' (first | exact trivial | refine And.intro ?_ ?_)) <;> (first | omega | (simp only [hasTy, okP, lenD, D.ren, D.isCell, Option.getD, List.length_set, List.length_take, List.length_drop, List.length_append, List.length_replicate, List.length_map, List.length_cons, List.length_nil, Option.map] <;> omega) | with_reducible assumption | with_reducible rfl | decide); done)) | (refine And.intro ?_ ?_; focus ((repeat' (first | exact trivial | refine And.intro ?_ ?_)) <;> (first | omega | (simp only [hasTy, okP, lenD, D.ren, D.isCell, Option.getD, List.length_set, List.length_take, List.length_drop, List.length_append, List.length_replicate, List.length_map, List.length_cons, List.length_nil, Option.map] <;> omega) | with_reducible assumption | with_reducible rfl | decide); done)) | refine chkG (by kernel_rfl) ?_
  refine retG [4, 2, 3] rfl rfl ⟨⟨_, rfl, rfl, rfl, id⟩, ⟨_, rfl, rfl, (ren_keysD _ k1).symm, id⟩, ⟨_, rfl, rfl, (ren_keysD _ k2).symm, id⟩, trivial⟩ rfl

theorem seal_ac (T : Ty) (hT : T = .row .cell ∨ ∃ n, T = .arr n .cell) (k1 k2 : List (List (BitVec 8))) (h1 : Rows 15 16 k1) (h2 : Rows 15 16 k2)
    (bs : List (BitVec 8)) (o m : Nat) (cap : Option Nat) (s : BitVec 64) (hm : o + 512 * m ≤ bs.length) (hm2 : m ≤ 128) (hbl : bs.length < 9223372036854775808) :
    AC Tryd.prog 80 [.ptr 0 [], .u64 s, .slice 3 [] o (512 * m) cap] 4 (xMem k1 k2 T bs)
      ⟨.tup [.slice 4 [] 0 (512 * m) none, .i64 0], [], [(.row .cell, .u8s (ovI (encF k1) k2 bs o s m))]⟩ := by
  have ho := over_ac T hT 115 (encF k1) k1 k2 h2 (fun p hp => encrypt_ac k1 p hp h1.1 h1.2) (fun p hp => encI_length k1 p hp 14) bs o m cap s hm hm2 hbl
  generalize ovI (encF k1) k2 bs o s m = out at ho ⊢
  refine ac_of tab mix Tryd.func80 rfl (by kernel_rfl) (by kernel_rfl) (by kernel_rfl) {} ?_
  repeat first | (refine EffG.mk (And.intro ?_ ?_); focus ((repeat' (first | exact trivial | refine And.intro ?_ ?_)) <;> (first | omega | (simp only [hasTy, okP, lenD, D.ren, D.isCell, Option.getD, List.length_set, List.length_take, List.length_drop, List.length_append, List.length_replicate, List.length_map, List.length_cons, List.length_nil, Option.map] <;> omega) | with_reducible assumption | with_reducible rfl | decide); done)) | (refine And.intro ?_ ?_; focus ((repeat' (first | exact trivial | refine And.intro ?_ ?_)) <;> (first | omega | (simp only [hasTy, okP, lenD, D.ren, D.isCell, Option.getD, List.length_set, List.length_take, List.length_drop, List.length_append, List.length_replicate, List.length_map, List.length_cons, List.length_nil, Option.map] <;> omega) | with_reducible assumption | with_reducible rfl | decide); done)) | refine chkG (by kernel_rfl) ?_
  refine Br.no rfl ?_
  repeat first | (refine EffG.mk (And.intro ?_ ?_); focus ((repeat' (first | exact trivial | refine And.intro ?_ ?_)) <;> (first | omega | (simp only [hasTy, okP, lenD, D.ren, D.isCell, Option.getD, List.length_set, List.length_take, List.length_drop, List.length_append, List.length_replicate, List.length_map, List.length_cons, List.length_nil, Option.map] <;> omega) | with_reducible assumption | with_reducible rfl | decide); done)) | (refine And.intro ?_ ?_; focus ((repeat' (first | exact trivial | refine And.intro ?_ ?_)) <;> (first | omega | (simp only [hasTy, okP, lenD, D.ren, D.isCell, Option.getD, List.length_set, List.length_take, List.length_drop, List.length_append, List.length_replicate, List.length_map, List.length_cons, List.length_nil, Option.map] <;> omega) | with_reducible assumption | with_reducible rfl | decide); done)) | refine chkG (by kernel_rfl) ?_
  refine callG ho [0, 1, 2, 3] rfl rfl ⟨⟨_, rfl, rfl, rfl, id⟩, ⟨_, rfl, rfl, (ren_keysD _ k1).symm, id⟩, ⟨_, rfl, rfl, (ren_keysD _ k2).symm, id⟩, ⟨_, rfl, rfl, rfl, id⟩, trivial⟩ rfl rfl ?_
  repeat first | (refine EffG.mk (And.intro ?_ ?_); focus ((repeat' (first | exact trivial | refine And.intro ?_ ?_)) <;> (first | omega | (simp only [hasTy, okP, lenD, D.ren, D.isCell, Option.getD, List.length_set, List.length_take, List.length_drop, List.length_append, List.length_replicate, List.length_map, List.length_cons, List.length_nil, Option.map] <;> omega) | with_reducible assumption | with_reducible rfl | decide); done)) | (refine And.intro ?_ ?_; focus ((repeat' (first | exact trivial | refine And.intro ?_ ?_)) <;> (first | omega | (simp only [hasTy, okP, lenD, D.ren, D.isCell, Option.getD, List.length_set, List.length_take, List.length_drop, List.length_append, List.length_replicate, List.length_map, List.length_cons, List.length_nil, Option.map] <;> omega) | with_reducible assumption | with_reducible rfl | decide); done)) | refine chkG (by kernel_rfl) ?_
  refine retG [0, 1, 2, 3, 4] ⟨rfl, rfl⟩ rfl ⟨⟨_, rfl, rfl, rfl, id⟩, ⟨_, rfl, rfl, rfl, id⟩, ⟨_, rfl, rfl, (ren_keysD _ k1).symm, id⟩, ⟨_, rfl, rfl, (ren_keysD _ k2).symm, id⟩, ⟨_, rfl, rfl, rfl, id⟩, trivial⟩ rfl

theorem xopen_ac (T : Ty) (hT : T = .row .cell ∨ ∃ n, T = .arr n .cell) (k1 k2 : List (List (BitVec 8))) (h1 : Rows 15 16 k1) (h2 : Rows 15 16 k2)
    (bs : List (BitVec 8)) (o m : Nat) (cap : Option Nat) (s : BitVec 64) (hm : o + 512 * m ≤ bs.length) (hm2 : m ≤ 128) (hbl : bs.length < 9223372036854775808) :
    AC Tryd.prog 84 [.ptr 0 [], .u64 s, .slice 3 [] o (512 * m) cap] 4 (xMem k1 k2 T bs)
      ⟨.tup [.slice 4 [] 0 (512 * m) none, .i64 0], [], [(.row .cell, .u8s (ovI (decF k1) k2 bs o s m))]⟩ := by
  have ho := over_ac T hT 118 (decF k1) k1 k2 h2 (fun p hp => decrypt_ac k1 p hp h1.1 h1.2) (fun p hp => by rw [decF, xorF_length, decI_length k1 p hp]) bs o m cap s hm hm2 hbl
  generalize ovI (decF k1) k2 bs o s m = out at ho ⊢
  refine ac_of tab mix Tryd.func84 rfl (by kernel_rfl) (by kernel_rfl) (by kernel_rfl) {} ?_
  repeat first | (refine EffG.mk (And.intro ?_ ?_); focus ((repeat' (first | exact trivial | refine And.intro ?_ ?_)) <;> (first | omega | (simp only [hasTy, okP, lenD, D.ren, D.isCell, Option.getD, List.length_set, List.length_take, List.length_drop, List.length_append, List.length_replicate, List.length_map, List.length_cons, List.length_nil, Option.map] <;> omega) | with_reducible assumption | with_reducible rfl | decide); done)) | (refine And.intro ?_ ?_; focus ((repeat' (first | exact trivial | refine And.intro ?_ ?_)) <;> (first | omega | (simp only [hasTy, okP, lenD, D.ren, D.isCell, Option.getD, List.length_set, List.length_take, List.length_drop, List.length_append, List.length_replicate, List.length_map, List.length_cons, List.length_nil, Option.map] <;> omega) | with_reducible assumption | with_reducible rfl | decide); done)) | refine chkG (by kernel_rfl) ?_
  refine Br.no rfl ?_
  repeat first | (refine EffG.mk (And.intro ?_ ?_); focus ((repeat' (first | exact trivial | refine And.intro ?_ ?_)) <;> (first | omega | (simp only [hasTy, okP, lenD, D.ren, D.isCell, Option.getD, List.length_set, List.length_take, List.length_drop, List.length_append, List.length_replicate, List.length_map, List.length_cons, List.length_nil, Option.map] <;> omega) | with_reducible assumption | with_reducible rfl | decide); done)) | (refine And.intro ?_ ?_; focus ((repeat' (first | exact trivial | refine And.intro ?_ ?_)) <;> (first | omega | (simp only [hasTy, okP, lenD, D.ren, D.isCell, Option.getD, List.length_set, List.length_take, List.length_drop, List.length_append, List.length_replicate, List.length_map, List.length_cons, List.length_nil, Option.map] <;> omega) | with_reducible assumption | with_reducible rfl | decide); done)) | refine chkG (by kernel_rfl) ?_
  refine callG ho [0, 1, 2, 3] rfl rfl ⟨⟨_, rfl, rfl, rfl, id⟩, ⟨_, rfl, rfl, (ren_keysD _ k1).symm, id⟩, ⟨_, rfl, rfl, (ren_keysD _ k2).symm, id⟩, ⟨_, rfl, rfl, rfl, id⟩, trivial⟩ rfl rfl ?_
  repeat first | (refine EffG.mk (And.intro ?_ ?_); focus ((repeat' (first | exact trivial | refine And.intro ?_ ?_)) <;> (first | omega | (simp only [hasTy, okP, lenD, D.ren, D.isCell, Option.getD, List.length_set, List.length_take, List.length_drop, List.length_append, List.length_replicate, List.length_map, List.length_cons, List.length_nil, Option.map] <;> omega) | with_reducible assumption | with_reducible rfl | decide); done)) | (refine And.intro ?_ ?_; focus ((repeat' (first | exact trivial | refine And.intro ?_ ?_)) <;> (first | omega | (simp only [hasTy, okP, lenD, D.ren, D.isCell, Option.getD, List.length_set, List.length_take, List.length_drop, List.length_append, List.length_replicate, List.length_map, List.length_cons, List.length_nil, Option.map] <;> omega) | with_reducible assumption | with_reducible rfl | decide); done)) | refine chkG (by kernel_rfl) ?_
  refine retG [0, 1, 2, 3, 4] ⟨rfl, rfl⟩ rfl ⟨⟨_, rfl, rfl, rfl, id⟩, ⟨_, rfl, rfl, rfl, id⟩, ⟨_, rfl, rfl, (ren_keysD _ k1).symm, id⟩, ⟨_, rfl, rfl, (ren_keysD _ k2).symm, id⟩, ⟨_, rfl, rfl, rfl, id⟩, trivial⟩ rfl
end Go.Proofs.YtodkhgofmgaafaaDoor.Av

namespace Go.Proofs.YtodkhgofmgaafaaDoor.Av
open Go
set_option linter.all false
set_option maxRecDepth 3000

/-- three parts' sum with a key -/
theorem hof3_ac (ks ss us vs : List (BitVec 8)) (p k q l r n o t : Nat) (c d f g : Option Nat) (ha : p + k ≤ ks.length) (hb : q + l ≤ ss.length) (hc : r + n ≤ us.length) (hd : o + t ≤ vs.length) (hk : k ≤ 64) (hl0 : 0 < l) (hl : l ≤ 10000000) (hn0 : 0 < n) (hn : n ≤ 10000000) (ht0 : 0 < t) (ht : t ≤ 10000000) :
    AC Tryd.prog 58 [.slice 0 [] p k c, .slice 1 [] 0 3 (some 3)] 5 [(0, some ⟨.row .cell, .u8s ks, false⟩), (1, some ⟨.row .cell, .node [.slice 2 [] q l d, .slice 3 [] r n f, .slice 4 [] o t g], true⟩), (2, some ⟨.row .cell, .u8s ss, false⟩), (3, some ⟨.row .cell, .u8s us, false⟩), (4, some ⟨.row .cell, .u8s vs, false⟩), gR]
      ⟨.u8s (hmF ((ks.drop p).take k) ((ss.drop q).take l ++ (us.drop r).take n ++ (vs.drop o).take t)), [], []⟩ := by
  have hkl : ((ks.drop p).take k).length = k := by rw [List.length_take, List.length_drop]; omega
  have hbl : ((ss.drop q).take l).length = l := by rw [List.length_take, List.length_drop]; omega
  have hul : ((us.drop r).take n).length = n := by rw [List.length_take, List.length_drop]; omega
  have hvl : ((vs.drop o).take t).length = t := by rw [List.length_take, List.length_drop]; omega
  have hn := hnew_ac ks p k c ha hk
  have e : hmF ((ks.drop p).take k) ((ss.drop q).take l ++ (us.drop r).take n ++ (vs.drop o).take t) = shaF (opF ((ks.drop p).take k) ++ shaF (ipF ((ks.drop p).take k) ++ ((ss.drop q).take l ++ (us.drop r).take n ++ (vs.drop o).take t))) := rfl
  rw [← List.append_assoc, ← List.append_assoc] at e
  have hO := opF_length ((ks.drop p).take k)
  have hN := ipF_length (key := (ks.drop p).take k) (by omega)
  generalize hmF ((ks.drop p).take k) ((ss.drop q).take l ++ (us.drop r).take n ++ (vs.drop o).take t) = y at e ⊢
  generalize opF ((ks.drop p).take k) = O at hn e hO
  generalize ipF ((ks.drop p).take k) = N at hn e hN
  have hw := macwrite_ac O N N ss 64 q l d (ip0 hN) (by rw [hN]; decide) hb hl0 (by omega) (by omega)
  have hr := writeM_rest N ((ss.drop q).take l) hbl
  have hm := writeM_room N ((ss.drop q).take l) hbl
  rw [hN] at hr hm
  generalize (ss.drop q).take l = b at hw hr hm e hbl
  have hNl : (N ++ b).length = 64 + l := by rw [List.length_append, hN, hbl]
  have hw2 := macwrite_ac O (N ++ b) (reF N ++ b) us (64 * ((64 % 64 + l) / 64)) r n f (by rw [hNl]; exact hr) (by rw [hNl]; exact hm) hc hn0 (by omega) (by omega)
  have hr2 := writeM_rest (N ++ b) ((us.drop r).take n) hul
  have hm2 := writeM_room (N ++ b) ((us.drop r).take n) hul
  rw [hNl] at hr2 hm2
  generalize (us.drop r).take n = u at hw2 hr2 hm2 e hul
  have hNl2 : (N ++ b ++ u).length = 64 + l + n := by rw [List.length_append, hNl, hul]
  have hw3 := macwrite_ac O (N ++ b ++ u) (reF (N ++ b) ++ u) vs (64 * (((64 + l) % 64 + n) / 64)) o t g (by rw [hNl2]; exact hr2) (by rw [hNl2]; exact hm2) hd ht0 (by omega) (by omega)
  have hr3 := writeM_rest (N ++ b ++ u) ((vs.drop o).take t) hvl
  have hm3 := writeM_room (N ++ b ++ u) ((vs.drop o).take t) hvl
  rw [hNl2] at hr3 hm3
  generalize (vs.drop o).take t = v at hw3 hr3 hm3 e hvl
  have hNl3 : (N ++ b ++ u ++ v).length = 64 + l + n + t := by rw [List.length_append, hNl2, hvl]
  have hs := macsum_ac O (N ++ b ++ u ++ v) (reF (N ++ b ++ u) ++ v) (64 * (((64 + l + n) % 64 + t) / 64)) (by rw [hNl3]; exact hr3) (by rw [hNl3]; exact hm3) (by omega) hO
  rw [← e, hNl3] at hs
  rw [hNl2] at hw3
  rw [hNl] at hw2
  rw [hN] at hw
  have hy : y.length = 32 := by rw [e]; exact shaF_length _
  refine acA tab mix Tryd.func58 ⟨[], [3]⟩ ?_
  repeat first | refine EffG.mk (obA ?_) | refine obA ?_ | refine chkA ?_
  refine callA hn [0] ?_
  repeat first | refine EffG.mk (obA ?_) | refine obA ?_ | refine chkA ?_
  refine unrG 4 ?_
  repeat first | refine EffG.mk (obA ?_) | refine obA ?_ | refine chkA ?_ | refine brY ?_ | refine brN ?_
  refine callA hw [6, 7, 2, 8] ?_
  repeat first | refine EffG.mk (obA ?_) | refine obA ?_ | refine chkA ?_ | refine brY ?_ | refine brN ?_
  refine callA hw2 [6, 7, 3, 9] ?_
  repeat first | refine EffG.mk (obA ?_) | refine obA ?_ | refine chkA ?_ | refine brY ?_ | refine brN ?_
  refine callA hw3 [6, 7, 4, 10] ?_
  repeat first | refine EffG.mk (obA ?_) | refine obA ?_ | refine chkA ?_ | refine brY ?_ | refine brN ?_
  refine callA hs [6, 7, 11] ?_
  repeat first | refine EffG.mk (obA ?_) | refine obA ?_ | refine chkA ?_
  refine retA [0, 1, 2, 3, 4]

/-! the sums of what stands in clusters -/
def leafS : List (BitVec 8) := [108, 101, 97, 102]
def pageS : List (BitVec 8) := [112, 97, 103, 101]
def nodeS : List (BitVec 8) := [110, 111, 100, 101]
def u4B (n : BitVec 32) : List (BitVec 8) := nbF (n.setWidth 64) 4
def leafF (tag : List (BitVec 8)) (at' : BitVec 32) (b : List (BitVec 8)) : List (BitVec 8) := hmF tag (leafS ++ u4B at' ++ b)
theorem leafF_length (tag : List (BitVec 8)) (at' : BitVec 32) (b : List (BitVec 8)) : (leafF tag at' b).length = 32 := hmF_length _ _

theorem npage_ac (bs : List (BitVec 8)) (o k : Nat) (cap : Option Nat) (h : o + k ≤ bs.length) (hk0 : 0 < k) (hk : k ≤ 10000000) :
    AC Tryd.prog 43 [.slice 0 [] o k cap] 1 [(0, some ⟨.row .cell, .u8s bs, false⟩), gR] ⟨.u8s (shaF (pageS ++ (bs.drop o).take k)), [], []⟩ := by
  have h1 := of2_ac pageS bs 0 4 o k (some 4) cap (by decide) h (by decide) hk0 (by decide) (by omega)
  rw [List.drop_zero, List.take_of_length_le (by decide)] at h1
  have hy := shaF_length (pageS ++ (bs.drop o).take k)
  generalize shaF (pageS ++ (bs.drop o).take k) = y at h1 hy ⊢
  refine acA tab mix Tryd.func43 {} ?_
  repeat first | refine EffG.mk (obA ?_) | refine obA ?_ | refine chkA ?_ | refine brY ?_ | refine brN ?_
  refine callA h1 [3, 2, 0] ?_
  repeat first | refine EffG.mk (obA ?_) | refine obA ?_ | refine chkA ?_ | refine brY ?_ | refine brN ?_
  refine retA [0]
theorem nsum_ac (bs : List (BitVec 8)) (o k : Nat) (cap : Option Nat) (h : o + k ≤ bs.length) (hk0 : 0 < k) (hk : k ≤ 10000000) :
    AC Tryd.prog 44 [.slice 0 [] o k cap] 1 [(0, some ⟨.row .cell, .u8s bs, false⟩), gR] ⟨.u8s (shaF (nodeS ++ (bs.drop o).take k)), [], []⟩ := by
  have h1 := of2_ac nodeS bs 0 4 o k (some 4) cap (by decide) h (by decide) hk0 (by decide) (by omega)
  rw [List.drop_zero, List.take_of_length_le (by decide)] at h1
  have hy := shaF_length (nodeS ++ (bs.drop o).take k)
  generalize shaF (nodeS ++ (bs.drop o).take k) = y at h1 hy ⊢
  refine acA tab mix Tryd.func44 {} ?_
  repeat first | refine EffG.mk (obA ?_) | refine obA ?_ | refine chkA ?_ | refine brY ?_ | refine brN ?_
  refine callA h1 [3, 2, 0] ?_
  repeat first | refine EffG.mk (obA ?_) | refine obA ?_ | refine chkA ?_ | refine brY ?_ | refine brN ?_
  refine retA [0]
theorem nleaf_ac (tag bs : List (BitVec 8)) (n : BitVec 32) (o k : Nat) (cap : Option Nat) (ht : tag.length = 32) (h : o + k ≤ bs.length) (hk0 : 0 < k) (hk : k ≤ 10000000) :
    AC Tryd.prog 88 [.u8s tag, .u32 n, .slice 0 [] o k cap] 1 [(0, some ⟨.row .cell, .u8s bs, false⟩), gR] ⟨.u8s (leafF tag n ((bs.drop o).take k)), [], []⟩ := by
  have hp := put32_ac n
  have hl := nbF_length (n.setWidth 64) 4
  have h1 := hof3_ac tag leafS (nbF (n.setWidth 64) 4) bs 0 32 0 4 0 4 o k (some 32) (some 4) none cap (by omega) (by decide) (by omega) h (by decide) (by decide) (by decide) (by decide) (by decide) hk0 hk
  rw [List.drop_zero, List.drop_zero, List.drop_zero, List.take_of_length_le (by omega), List.take_of_length_le (by decide), List.take_of_length_le (by omega), show hmF tag (leafS ++ nbF (n.setWidth 64) 4 ++ (bs.drop o).take k) = leafF tag n ((bs.drop o).take k) from rfl] at h1
  have hy := leafF_length tag n ((bs.drop o).take k)
  generalize leafF tag n ((bs.drop o).take k) = y at h1 hy ⊢
  generalize nbF (n.setWidth 64) 4 = Z at hp hl h1
  refine acA tab mix Tryd.func88 {} ?_
  repeat first | refine EffG.mk (obA ?_) | refine obA ?_ | refine chkA ?_ | refine brY ?_ | refine brN ?_
  refine callA hp [] ?_
  repeat first | refine EffG.mk (obA ?_) | refine obA ?_ | refine chkA ?_ | refine brY ?_ | refine brN ?_
  refine callA (h1.arr 0 32) [1, 5, 3, 4, 0] ?_
  repeat first | refine EffG.mk (obA ?_) | refine obA ?_ | refine chkA ?_ | refine brY ?_ | refine brN ?_
  refine retA [0]
end Go.Proofs.YtodkhgofmgaafaaDoor.Av

namespace Go.Proofs.YtodkhgofmgaafaaDoor.Av
open Go
set_option linter.all false
set_option maxRecDepth 3000

abbrev tSp : Ty := .st [.cell, .st [.cell, .cell], .cell, .arr 32 .cell]
abbrev tRef : Ty := .st [.cell, .arr 32 .cell]
def refD (n : BitVec 32) (s : List (BitVec 8)) : D := .node [.u32 n, .u8s s]
abbrev spD (d x c : Nat) (tag : List (BitVec 8)) : D := .node [.ptr d [], geoD c 1, .ptr x [], .u8s tag]

theorem leaf1_ac (c : Nat) (tag bs : List (BitVec 8)) (n : BitVec 32) (o k : Nat) (cap : Option Nat) (ht : tag.length = 32) (h : o + k ≤ bs.length) (hk0 : 0 < k) (hk : k ≤ 10000000) :
    AC Tryd.prog 116 [.slice 0 [] o k cap, .ptr 1 [], .ptr 2 []] 6 [(0, some ⟨.row .cell, .u8s bs, false⟩), (1, some ⟨.cell, .ptr 3 [], false⟩), (2, some ⟨.cell, .u32 n, false⟩), (3, some ⟨tSp, spD 4 5 c tag, false⟩), gR] ⟨.u8s (leafF tag n ((bs.drop o).take k)), [], []⟩ := by
  have h1 := nleaf_ac tag bs n o k cap ht h hk0 hk
  have hy := leafF_length tag n ((bs.drop o).take k)
  generalize leafF tag n ((bs.drop o).take k) = y at h1 hy ⊢
  refine acA tab mix Tryd.func116 {} ?_
  repeat first | refine EffG.mk (obA ?_) | refine obA ?_ | refine chkA ?_ | refine brY ?_ | refine brN ?_
  refine callA h1 [0] ?_
  repeat first | refine EffG.mk (obA ?_) | refine obA ?_ | refine chkA ?_ | refine brY ?_ | refine brN ?_
  refine retA [0, 1, 2, 3, 4, 5]
theorem leaf_ac (n : BitVec 32) : AC Tryd.prog 82 [.ptr 0 [], .u32 n] 1 [] ⟨.fn 116 [] [.ptr 1 [], .ptr 2 []], [], [(.cell, .ptr 0 []), (.cell, .u32 n)]⟩ := by
  refine acA tab mix Tryd.func82 {} ?_
  repeat first | refine EffG.mk (obA ?_) | refine obA ?_ | refine chkA ?_ | refine brY ?_ | refine brN ?_
  refine retA [0, 1, 2]
theorem size_ac (d x c : Nat) (tag : List (BitVec 8)) (hd : d < 3) (hx : x < 3) : AC Tryd.prog 79 [.ptr 0 []] 3 [(0, some ⟨tSp, spD 1 2 c tag, false⟩)] ⟨.i64 512, [], []⟩ := by
  refine acA tab mix Tryd.func79 {} ?_
  repeat first | refine EffG.mk (obA ?_) | refine obA ?_ | refine chkA ?_ | refine brY ?_ | refine brN ?_
  refine retA [0, 1, 2]
theorem place1_ac (c : Nat) (n : BitVec 32) (hc : 1 ≤ c) (hc2 : c ≤ 64) (hn : n.toNat ≤ 65535) : AC Tryd.prog 112 [geoD c 1, .u32 n] 0 [] ⟨.i64 (512 * (8 + n.toNat) : Nat), [], []⟩ := by
  have h := place_ac c 1 n hc hc2 (by decide) (by decide) hn
  rw [show ((8 + (n.toNat : Int) * ((1 : Nat) : Int)) * 512) = ((512 * (8 + n.toNat) : Nat) : Int) by omega] at h
  exact h
theorem sector_ac (c : Nat) (tag : List (BitVec 8)) (n : BitVec 32) (hc : 1 ≤ c) (hc2 : c ≤ 64) (hn : n.toNat ≤ 65535) : AC Tryd.prog 81 [.ptr 0 [], .u32 n] 3 [(0, some ⟨tSp, spD 1 2 c tag, false⟩)] ⟨.u64 (BitVec.ofNat 64 (8 + n.toNat)), [], []⟩ := by
  have h := place1_ac c n hc hc2 hn
  have e : Int.tdiv ((512 * (8 + n.toNat) : Nat) : Int) 512 = ((8 + n.toNat : Nat) : Int) := by
    have h0 : Int.tdiv ((512 * (8 + n.toNat) : Nat) : Int) ((512 : Nat) : Int) = ((512 * (8 + n.toNat) / 512 : Nat) : Int) := rfl
    have h1 : 512 * (8 + n.toNat) / 512 = 8 + n.toNat := Nat.mul_div_cancel_left _ (by decide)
    rw [h1] at h0; exact h0
  have e2 : BitVec.ofNat 64 (8 + n.toNat) = BitVec.ofInt 64 (Int.tdiv ((512 * (8 + n.toNat) : Nat) : Int) 512) := by rw [e]; rfl
  rw [e2]
  have hI : inI (Int.tdiv ((512 * (8 + n.toNat) : Nat) : Int) 512) := by rw [e]; unfold inI; omega
  clear e e2
  refine acA tab mix Tryd.func81 {} ?_
  repeat first | refine EffG.mk (obA ?_) | refine obA ?_ | refine chkA ?_ | refine brY ?_ | refine brN ?_
  refine callA h [] ?_
  repeat first | refine EffG.mk (obA ?_) | refine obA ?_ | refine chkA ?_ | refine brY ?_ | refine brN ?_
  refine retA [0, 1, 2]
theorem told43_ac : AC Tryd.prog 113 [.i64 43] 0 [] ⟨.i64 40, [], []⟩ := by
  refine acA tab mix Tryd.func113 {} ?_
  repeat first | refine EffG.mk (obA ?_) | refine obA ?_ | refine chkA ?_ | refine brY ?_ | refine brN ?_
  refine retA []

/-- a space: the device 0, what is seen 1, what is safe 2, what is loose 3, the space 4, its keys 5 6 7 -/
abbrev spM (c : Nat) (tag : List (BitVec 8)) (k1 k2 : List (List (BitVec 8))) (most N : Nat) (cap : Option Nat) (N2 : Nat) (cap2 : Option Nat) (ls : List Lo) (st : Nat) (S : List (BitVec 8)) : Mem :=
  looM 3 ls ++ [(0, some ⟨tDv, dvD most N cap N2 cap2 (looD 3 ls) st, true⟩), (1, some ⟨.row .cell, .u8s S, true⟩), (4, some ⟨tSp, spD 0 5 c tag, true⟩), (5, some ⟨tX, .node [.ptr 6 [], .ptr 7 []], true⟩), (6, some ⟨tC, keysD k1, true⟩), (7, some ⟨tC, keysD k2, true⟩), gR]
def pad512 (b : List (BitVec 8)) : List (BitVec 8) := b ++ List.replicate (512 - b.length) 0

theorem sput_ac' (f : Nat) (F : List (BitVec 8) → List (BitVec 8)) (hF : ∀ b, (F b).length = 32)
    (hf : ∀ (bs : List (BitVec 8)), bs.length = 512 → AC Tryd.prog f [.slice 0 [] 0 512 none] 1 [(0, some ⟨.row .cell, .u8s bs, false⟩), gR] ⟨.u8s (F bs), [], []⟩)
    (c : Nat) (tag : List (BitVec 8)) (k1 k2 : List (List (BitVec 8))) (most N : Nat) (cap : Option Nat) (N2 : Nat) (cap2 : Option Nat) (ls : List Lo) (st : Nat) (S : List (BitVec 8)) (n : BitVec 32) (B : List (BitVec 8)) (o k : Nat) (cap3 : Option Nat)
    (hc : 1 ≤ c) (hc2 : c ≤ 64) (ht : tag.length = 32) (hls : ∀ x ∈ ls, x.bytes.length = 512) (hS : S.length = N) (hn : n.toNat ≤ 65535) (hq : 512 * (8 + n.toNat) + 512 ≤ N) (hB : o + k ≤ B.length) (hk : k ≤ 512) (hN : N ≤ most) (hm : most ≤ 16777216) (hl : ls.length < 1000) (hst : st < 1000) :
    AC Tryd.prog 77 [.ptr 4 [], .u32 n, .slice 8 [] o k cap3, .fn f [] []] 9 (spM c tag k1 k2 most N cap N2 cap2 ls st S ++ [(8, some ⟨.row .cell, .u8s B, false⟩)])
      ⟨.tup [refD (n + 1) (F (pad512 ((B.drop o).take k))), .i64 0], (looM 3 ls).map (fun p => (p.1, none)) ++ [(0, some (dvD most N cap N2 cap2 (.slice 9 [] 0 (ls.length + 1) none) (st + 1))), (1, some (.u8s (layF S (pad512 ((B.drop o).take k)) (512 * (8 + n.toNat)))))],
       [(.row tLo, losD (ls ++ [loF (layF S (pad512 ((B.drop o).take k)) (512 * (8 + n.toNat))) (8 + n.toNat)]))]⟩ := by
  have hbl : ((B.drop o).take k).length = k := by rw [List.length_take, List.length_drop]; omega
  have hpd := padN_ac B o k 512 cap3 hB hk (by decide)
  have hsz := size_ac 0 0 c tag (by decide) (by decide)
  have hpl := place1_ac c n hc hc2 hn
  have hpe : (B.drop o).take k ++ List.replicate (512 - k) 0 = pad512 ((B.drop o).take k) := by rw [pad512, hbl]
  rw [hpe] at hpd
  have hPl : (pad512 ((B.drop o).take k)).length = 512 := by rw [pad512, List.length_append, List.length_replicate]; omega
  generalize pad512 ((B.drop o).take k) = Q at hpd hPl ⊢
  have hw := dwrite_ac most N cap N2 cap2 ls hls st (8 + n.toNat) 0 none S Q hS hq (by omega) hN hm hl hst
  rw [List.drop_zero, List.take_of_length_le (by omega)] at hw
  have hsum := hf Q hPl
  have hFl := hF Q
  generalize F Q = sum at hsum hFl ⊢
  generalize layF S Q (512 * (8 + n.toNat)) = S' at hw ⊢
  refine acA tab mix Tryd.func77 {} ?_
  cases ls
  · repeat first | refine EffG.mk (obA ?_) | refine obA ?_ | refine chkA ?_ | refine brY ?_ | refine brN ?_
    refine brN ?_ (decide_eq_false (show ¬ 65535 < n.toNat by omega))
    repeat first | refine EffG.mk (obA ?_) | refine obA ?_ | refine chkA ?_ | refine brY ?_ | refine brN ?_
    refine callA hsz [4, 0, 5] ?_
    repeat first | refine EffG.mk (obA ?_) | refine obA ?_ | refine chkA ?_ | refine brY ?_ | refine brN ?_
    refine callA hpd [8] ?_
    repeat first | refine EffG.mk (obA ?_) | refine obA ?_ | refine chkA ?_ | refine brY ?_ | refine brN ?_
    refine callA hpl [] ?_
    repeat first | refine EffG.mk (obA ?_) | refine obA ?_ | refine chkA ?_ | refine brY ?_ | refine brN ?_
    refine callA hw [0, 1, 2, 3, 10] ?_
    repeat first | refine EffG.mk (obA ?_) | refine obA ?_ | refine chkA ?_ | refine brY ?_ | refine brN ?_
    refine callA hsum [10] ?_
    repeat first | refine EffG.mk (obA ?_) | refine obA ?_ | refine chkA ?_ | refine brY ?_ | refine brN ?_
    refine retA [0, 1, 2, 3, 4, 5, 6, 7, 8, 11]
  · repeat first | refine EffG.mk (obA ?_) | refine obA ?_ | refine chkA ?_ | refine brY ?_ | refine brN ?_
    refine brN ?_ (decide_eq_false (show ¬ 65535 < n.toNat by omega))
    repeat first | refine EffG.mk (obA ?_) | refine obA ?_ | refine chkA ?_ | refine brY ?_ | refine brN ?_
    refine callA hsz [4, 0, 5] ?_
    repeat first | refine EffG.mk (obA ?_) | refine obA ?_ | refine chkA ?_ | refine brY ?_ | refine brN ?_
    refine callA hpd [8] ?_
    repeat first | refine EffG.mk (obA ?_) | refine obA ?_ | refine chkA ?_ | refine brY ?_ | refine brN ?_
    refine callA hpl [] ?_
    repeat first | refine EffG.mk (obA ?_) | refine obA ?_ | refine chkA ?_ | refine brY ?_ | refine brN ?_
    refine callA hw [0, 1, 2, 3, 10] ?_
    repeat first | refine EffG.mk (obA ?_) | refine obA ?_ | refine chkA ?_ | refine brY ?_ | refine brN ?_
    refine callA hsum [10] ?_
    repeat first | refine EffG.mk (obA ?_) | refine obA ?_ | refine chkA ?_ | refine brY ?_ | refine brN ?_
    refine retA [0, 1, 2, 3, 4, 5, 6, 7, 8, 11]
theorem sputl_ac (m : BitVec 32) (c : Nat) (tag : List (BitVec 8)) (k1 k2 : List (List (BitVec 8))) (most N : Nat) (cap : Option Nat) (N2 : Nat) (cap2 : Option Nat) (ls : List Lo) (st : Nat) (S : List (BitVec 8)) (n : BitVec 32) (B : List (BitVec 8)) (o k : Nat) (cap3 : Option Nat)
    (hc : 1 ≤ c) (hc2 : c ≤ 64) (ht : tag.length = 32) (hls : ∀ x ∈ ls, x.bytes.length = 512) (hS : S.length = N) (hn : n.toNat ≤ 65535) (hq : 512 * (8 + n.toNat) + 512 ≤ N) (hB : o + k ≤ B.length) (hk : k ≤ 512) (hN : N ≤ most) (hm : most ≤ 16777216) (hl : ls.length < 1000) (hst : st < 1000) :
    AC Tryd.prog 77 [.ptr 4 [], .u32 n, .slice 8 [] o k cap3, .fn 116 [] [.ptr 9 [], .ptr 10 []]] 11 (spM c tag k1 k2 most N cap N2 cap2 ls st S ++ [(8, some ⟨.row .cell, .u8s B, false⟩), (9, some ⟨.cell, .ptr 4 [], true⟩), (10, some ⟨.cell, .u32 m, true⟩)])
      ⟨.tup [refD (n + 1) (leafF tag m (pad512 ((B.drop o).take k))), .i64 0], (looM 3 ls).map (fun p => (p.1, none)) ++ [(0, some (dvD most N cap N2 cap2 (.slice 11 [] 0 (ls.length + 1) none) (st + 1))), (1, some (.u8s (layF S (pad512 ((B.drop o).take k)) (512 * (8 + n.toNat)))))],
       [(.row tLo, losD (ls ++ [loF (layF S (pad512 ((B.drop o).take k)) (512 * (8 + n.toNat))) (8 + n.toNat)]))]⟩ := by
  have hbl : ((B.drop o).take k).length = k := by rw [List.length_take, List.length_drop]; omega
  have hpd := padN_ac B o k 512 cap3 hB hk (by decide)
  have hsz := size_ac 0 0 c tag (by decide) (by decide)
  have hpl := place1_ac c n hc hc2 hn
  have hpe : (B.drop o).take k ++ List.replicate (512 - k) 0 = pad512 ((B.drop o).take k) := by rw [pad512, hbl]
  rw [hpe] at hpd
  have hPl : (pad512 ((B.drop o).take k)).length = 512 := by rw [pad512, List.length_append, List.length_replicate]; omega
  generalize pad512 ((B.drop o).take k) = Q at hpd hPl ⊢
  have hw := dwrite_ac most N cap N2 cap2 ls hls st (8 + n.toNat) 0 none S Q hS hq (by omega) hN hm hl hst
  rw [List.drop_zero, List.take_of_length_le (by omega)] at hw
  have hsum := leaf1_ac c tag Q m 0 512 none ht (by omega) (by decide) (by decide)
  rw [List.drop_zero, List.take_of_length_le (by omega)] at hsum
  have hFl := leafF_length tag m Q
  generalize leafF tag m Q = sum at hsum hFl ⊢
  generalize layF S Q (512 * (8 + n.toNat)) = S' at hw ⊢
  refine acA tab mix Tryd.func77 {} ?_
  cases ls
  · repeat first | refine EffG.mk (obA ?_) | refine obA ?_ | refine chkA ?_ | refine brY ?_ | refine brN ?_
    refine brN ?_ (decide_eq_false (show ¬ 65535 < n.toNat by omega))
    repeat first | refine EffG.mk (obA ?_) | refine obA ?_ | refine chkA ?_ | refine brY ?_ | refine brN ?_
    refine callA hsz [4, 0, 5] ?_
    repeat first | refine EffG.mk (obA ?_) | refine obA ?_ | refine chkA ?_ | refine brY ?_ | refine brN ?_
    refine callA hpd [8] ?_
    repeat first | refine EffG.mk (obA ?_) | refine obA ?_ | refine chkA ?_ | refine brY ?_ | refine brN ?_
    refine callA hpl [] ?_
    repeat first | refine EffG.mk (obA ?_) | refine obA ?_ | refine chkA ?_ | refine brY ?_ | refine brN ?_
    refine callA hw [0, 1, 2, 3, 12] ?_
    repeat first | refine EffG.mk (obA ?_) | refine obA ?_ | refine chkA ?_ | refine brY ?_ | refine brN ?_
    refine callA hsum [12, 9, 10, 4, 0, 5] ?_
    repeat first | refine EffG.mk (obA ?_) | refine obA ?_ | refine chkA ?_ | refine brY ?_ | refine brN ?_
    refine retA [0, 1, 2, 3, 4, 5, 6, 7, 8, 9, 10, 13]
  · repeat first | refine EffG.mk (obA ?_) | refine obA ?_ | refine chkA ?_ | refine brY ?_ | refine brN ?_
    refine brN ?_ (decide_eq_false (show ¬ 65535 < n.toNat by omega))
    repeat first | refine EffG.mk (obA ?_) | refine obA ?_ | refine chkA ?_ | refine brY ?_ | refine brN ?_
    refine callA hsz [4, 0, 5] ?_
    repeat first | refine EffG.mk (obA ?_) | refine obA ?_ | refine chkA ?_ | refine brY ?_ | refine brN ?_
    refine callA hpd [8] ?_
    repeat first | refine EffG.mk (obA ?_) | refine obA ?_ | refine chkA ?_ | refine brY ?_ | refine brN ?_
    refine callA hpl [] ?_
    repeat first | refine EffG.mk (obA ?_) | refine obA ?_ | refine chkA ?_ | refine brY ?_ | refine brN ?_
    refine callA hw [0, 1, 2, 3, 12] ?_
    repeat first | refine EffG.mk (obA ?_) | refine obA ?_ | refine chkA ?_ | refine brY ?_ | refine brN ?_
    refine callA hsum [12, 9, 10, 4, 0, 5] ?_
    repeat first | refine EffG.mk (obA ?_) | refine obA ?_ | refine chkA ?_ | refine brY ?_ | refine brN ?_
    refine retA [0, 1, 2, 3, 4, 5, 6, 7, 8, 9, 10, 13]
end Go.Proofs.YtodkhgofmgaafaaDoor.Av

namespace Go.Proofs.YtodkhgofmgaafaaDoor.Av
open Go
set_option linter.all false
set_option maxRecDepth 3000

theorem sub1_toNat {a : BitVec 32} (h : 1 ≤ a.toNat) : (a - 1).toNat = a.toNat - 1 := by
  have := a.isLt
  rw [BitVec.toNat_sub]; show (2 ^ 32 - 1 + a.toNat) % 2 ^ 32 = _; omega

/-- a cluster is read: its sum is as the ref says, or not -/
theorem sget_ac (f : Nat) (F : List (BitVec 8) → List (BitVec 8)) (hF : ∀ b, (F b).length = 32)
    (hf : ∀ (bs : List (BitVec 8)), bs.length = 512 → AC Tryd.prog f [.slice 0 [] 0 512 none] 1 [(0, some ⟨.row .cell, .u8s bs, false⟩), gR] ⟨.u8s (F bs), [], []⟩)
    (c : Nat) (tag : List (BitVec 8)) (k1 k2 : List (List (BitVec 8))) (most N : Nat) (cap : Option Nat) (N2 : Nat) (cap2 : Option Nat) (ls : List Lo) (st : Nat) (S : List (BitVec 8)) (a : BitVec 32) (r : List (BitVec 8))
    (hc : 1 ≤ c) (hc2 : c ≤ 64) (hr : r.length = 32) (hS : S.length = N) (ha0 : 1 ≤ a.toNat) (ha : a.toNat ≤ 65536) (hq : 512 * (8 + (a - 1).toNat) + 512 ≤ N) (hN : N < 70368744177664)
    (he : F ((S.drop (512 * (8 + (a - 1).toNat))).take 512) = r) :
    AC Tryd.prog 83 [.ptr 4 [], refD a r, .fn f [] []] 8 (spM c tag k1 k2 most N cap N2 cap2 ls st S)
      ⟨.tup [.slice 8 [] 0 512 none, .i64 0], [], [(.row .cell, .u8s ((S.drop (512 * (8 + (a - 1).toNat))).take 512))]⟩ := by
  have hs1 := sub1_toNat ha0
  have hsz := size_ac 0 0 c tag (by decide) (by decide)
  have hpl := place1_ac c (a - 1) hc hc2 (by omega)
  have hrd := dread_ac most N cap N2 cap2 ls st (512 * (8 + (a - 1).toNat)) 512 S hS hq hN
  have hQl : ((S.drop (512 * (8 + (a - 1).toNat))).take 512).length = 512 := by rw [List.length_take, List.length_drop]; omega
  generalize (S.drop (512 * (8 + (a - 1).toNat))).take 512 = Q at hrd hQl he ⊢
  have hsum := hf Q hQl
  have heq := equal_ac (F Q) r 32 (some 32) (some 32) (hF Q) hr (by decide)
  rw [decide_eq_true he] at heq
  have hFl := hF Q
  generalize F Q = sum at hsum hFl heq
  have q0 : decide (a = BitVec.ofNat 32 (Int.toNat 0)) = false := decide_eq_false (fun e => by rw [e] at ha0; exact absurd ha0 (by decide))
  refine acA tab mix Tryd.func83 {} ?_
  cases ls
  · repeat first | refine EffG.mk (obA ?_) | refine obA ?_ | refine chkA ?_ | refine brY ?_ | refine brN ?_
    rw [q0]
    repeat first | refine EffG.mk (obA ?_) | refine obA ?_ | refine chkA ?_ | refine brY ?_ | refine brN ?_
    refine brN ?_ (decide_eq_false (show ¬ 65536 < a.toNat by omega))
    repeat first | refine EffG.mk (obA ?_) | refine obA ?_ | refine chkA ?_ | refine brY ?_ | refine brN ?_
    refine callA hpl [] ?_
    repeat first | refine EffG.mk (obA ?_) | refine obA ?_ | refine chkA ?_ | refine brY ?_ | refine brN ?_
    refine callA hsz [4, 0, 5] ?_
    repeat first | refine EffG.mk (obA ?_) | refine obA ?_ | refine chkA ?_ | refine brY ?_ | refine brN ?_
    refine callA hrd [0, 1, 2, 3] ?_
    repeat first | refine EffG.mk (obA ?_) | refine obA ?_ | refine chkA ?_ | refine brY ?_ | refine brN ?_
    refine callA hsum [9] ?_
    repeat first | refine EffG.mk (obA ?_) | refine obA ?_ | refine chkA ?_ | refine brY ?_ | refine brN ?_
    refine callA ((heq.arr 0 32).arrAt 1 32 [.fld 1] tRef (refD a r)) [10, 8] ?_
    repeat first | refine EffG.mk (obA ?_) | refine obA ?_ | refine chkA ?_ | refine brY ?_ | refine brN ?_
    refine retA [0, 1, 2, 3, 4, 5, 6, 7, 9]
  · repeat first | refine EffG.mk (obA ?_) | refine obA ?_ | refine chkA ?_ | refine brY ?_ | refine brN ?_
    rw [q0]
    repeat first | refine EffG.mk (obA ?_) | refine obA ?_ | refine chkA ?_ | refine brY ?_ | refine brN ?_
    refine brN ?_ (decide_eq_false (show ¬ 65536 < a.toNat by omega))
    repeat first | refine EffG.mk (obA ?_) | refine obA ?_ | refine chkA ?_ | refine brY ?_ | refine brN ?_
    refine callA hpl [] ?_
    repeat first | refine EffG.mk (obA ?_) | refine obA ?_ | refine chkA ?_ | refine brY ?_ | refine brN ?_
    refine callA hsz [4, 0, 5] ?_
    repeat first | refine EffG.mk (obA ?_) | refine obA ?_ | refine chkA ?_ | refine brY ?_ | refine brN ?_
    refine callA hrd [0, 1, 2, 3] ?_
    repeat first | refine EffG.mk (obA ?_) | refine obA ?_ | refine chkA ?_ | refine brY ?_ | refine brN ?_
    refine callA hsum [9] ?_
    repeat first | refine EffG.mk (obA ?_) | refine obA ?_ | refine chkA ?_ | refine brY ?_ | refine brN ?_
    refine callA ((heq.arr 0 32).arrAt 1 32 [.fld 1] tRef (refD a r)) [10, 8] ?_
    repeat first | refine EffG.mk (obA ?_) | refine obA ?_ | refine chkA ?_ | refine brY ?_ | refine brN ?_
    refine retA [0, 1, 2, 3, 4, 5, 6, 7, 9]
/-- a cluster is read: its sum is as the ref says, or not -/
theorem sgetN_ac (f : Nat) (F : List (BitVec 8) → List (BitVec 8)) (hF : ∀ b, (F b).length = 32)
    (hf : ∀ (bs : List (BitVec 8)), bs.length = 512 → AC Tryd.prog f [.slice 0 [] 0 512 none] 1 [(0, some ⟨.row .cell, .u8s bs, false⟩), gR] ⟨.u8s (F bs), [], []⟩)
    (c : Nat) (tag : List (BitVec 8)) (k1 k2 : List (List (BitVec 8))) (most N : Nat) (cap : Option Nat) (N2 : Nat) (cap2 : Option Nat) (ls : List Lo) (st : Nat) (S : List (BitVec 8)) (a : BitVec 32) (r : List (BitVec 8))
    (hc : 1 ≤ c) (hc2 : c ≤ 64) (hr : r.length = 32) (hS : S.length = N) (ha0 : 1 ≤ a.toNat) (ha : a.toNat ≤ 65536) (hq : 512 * (8 + (a - 1).toNat) + 512 ≤ N) (hN : N < 70368744177664)
    (he : ¬ F ((S.drop (512 * (8 + (a - 1).toNat))).take 512) = r) :
    AC Tryd.prog 83 [.ptr 4 [], refD a r, .fn f [] []] 8 (spM c tag k1 k2 most N cap N2 cap2 ls st S)
      ⟨.tup [.nilslice, .i64 40], [], []⟩ := by
  have hs1 := sub1_toNat ha0
  have hsz := size_ac 0 0 c tag (by decide) (by decide)
  have hpl := place1_ac c (a - 1) hc hc2 (by omega)
  have hrd := dread_ac most N cap N2 cap2 ls st (512 * (8 + (a - 1).toNat)) 512 S hS hq hN
  have hQl : ((S.drop (512 * (8 + (a - 1).toNat))).take 512).length = 512 := by rw [List.length_take, List.length_drop]; omega
  generalize (S.drop (512 * (8 + (a - 1).toNat))).take 512 = Q at hrd hQl he
  have hsum := hf Q hQl
  have heq := equal_ac (F Q) r 32 (some 32) (some 32) (hF Q) hr (by decide)
  rw [decide_eq_false he] at heq
  have hFl := hF Q
  generalize F Q = sum at hsum hFl heq
  have q0 : decide (a = BitVec.ofNat 32 (Int.toNat 0)) = false := decide_eq_false (fun e => by rw [e] at ha0; exact absurd ha0 (by decide))
  refine acA tab mix Tryd.func83 {} ?_
  cases ls
  · repeat first | refine EffG.mk (obA ?_) | refine obA ?_ | refine chkA ?_ | refine brY ?_ | refine brN ?_
    rw [q0]
    repeat first | refine EffG.mk (obA ?_) | refine obA ?_ | refine chkA ?_ | refine brY ?_ | refine brN ?_
    refine brN ?_ (decide_eq_false (show ¬ 65536 < a.toNat by omega))
    repeat first | refine EffG.mk (obA ?_) | refine obA ?_ | refine chkA ?_ | refine brY ?_ | refine brN ?_
    refine callA hpl [] ?_
    repeat first | refine EffG.mk (obA ?_) | refine obA ?_ | refine chkA ?_ | refine brY ?_ | refine brN ?_
    refine callA hsz [4, 0, 5] ?_
    repeat first | refine EffG.mk (obA ?_) | refine obA ?_ | refine chkA ?_ | refine brY ?_ | refine brN ?_
    refine callA hrd [0, 1, 2, 3] ?_
    repeat first | refine EffG.mk (obA ?_) | refine obA ?_ | refine chkA ?_ | refine brY ?_ | refine brN ?_
    refine callA hsum [9] ?_
    repeat first | refine EffG.mk (obA ?_) | refine obA ?_ | refine chkA ?_ | refine brY ?_ | refine brN ?_
    refine callA ((heq.arr 0 32).arrAt 1 32 [.fld 1] tRef (refD a r)) [10, 8] ?_
    repeat first | refine EffG.mk (obA ?_) | refine obA ?_ | refine chkA ?_ | refine brY ?_ | refine brN ?_
    refine retA [0, 1, 2, 3, 4, 5, 6, 7]
  · repeat first | refine EffG.mk (obA ?_) | refine obA ?_ | refine chkA ?_ | refine brY ?_ | refine brN ?_
    rw [q0]
    repeat first | refine EffG.mk (obA ?_) | refine obA ?_ | refine chkA ?_ | refine brY ?_ | refine brN ?_
    refine brN ?_ (decide_eq_false (show ¬ 65536 < a.toNat by omega))
    repeat first | refine EffG.mk (obA ?_) | refine obA ?_ | refine chkA ?_ | refine brY ?_ | refine brN ?_
    refine callA hpl [] ?_
    repeat first | refine EffG.mk (obA ?_) | refine obA ?_ | refine chkA ?_ | refine brY ?_ | refine brN ?_
    refine callA hsz [4, 0, 5] ?_
    repeat first | refine EffG.mk (obA ?_) | refine obA ?_ | refine chkA ?_ | refine brY ?_ | refine brN ?_
    refine callA hrd [0, 1, 2, 3] ?_
    repeat first | refine EffG.mk (obA ?_) | refine obA ?_ | refine chkA ?_ | refine brY ?_ | refine brN ?_
    refine callA hsum [9] ?_
    repeat first | refine EffG.mk (obA ?_) | refine obA ?_ | refine chkA ?_ | refine brY ?_ | refine brN ?_
    refine callA ((heq.arr 0 32).arrAt 1 32 [.fld 1] tRef (refD a r)) [10, 8] ?_
    repeat first | refine EffG.mk (obA ?_) | refine obA ?_ | refine chkA ?_ | refine brY ?_ | refine brN ?_
    refine retA [0, 1, 2, 3, 4, 5, 6, 7]
/-- a cluster is read: its sum is as the ref says, or not -/
theorem sgetl_ac (m : BitVec 32) (c : Nat) (tag : List (BitVec 8)) (k1 k2 : List (List (BitVec 8))) (most N : Nat) (cap : Option Nat) (N2 : Nat) (cap2 : Option Nat) (ls : List Lo) (st : Nat) (S : List (BitVec 8)) (a : BitVec 32) (r : List (BitVec 8))
    (hc : 1 ≤ c) (hc2 : c ≤ 64) (ht : tag.length = 32) (hr : r.length = 32) (hS : S.length = N) (ha0 : 1 ≤ a.toNat) (ha : a.toNat ≤ 65536) (hq : 512 * (8 + (a - 1).toNat) + 512 ≤ N) (hN : N < 70368744177664)
    (he : leafF tag m ((S.drop (512 * (8 + (a - 1).toNat))).take 512) = r) :
    AC Tryd.prog 83 [.ptr 4 [], refD a r, .fn 116 [] [.ptr 8 [], .ptr 9 []]] 10 (spM c tag k1 k2 most N cap N2 cap2 ls st S ++ [(8, some ⟨.cell, .ptr 4 [], true⟩), (9, some ⟨.cell, .u32 m, true⟩)])
      ⟨.tup [.slice 10 [] 0 512 none, .i64 0], [], [(.row .cell, .u8s ((S.drop (512 * (8 + (a - 1).toNat))).take 512))]⟩ := by
  have hs1 := sub1_toNat ha0
  have hsz := size_ac 0 0 c tag (by decide) (by decide)
  have hpl := place1_ac c (a - 1) hc hc2 (by omega)
  have hrd := dread_ac most N cap N2 cap2 ls st (512 * (8 + (a - 1).toNat)) 512 S hS hq hN
  have hQl : ((S.drop (512 * (8 + (a - 1).toNat))).take 512).length = 512 := by rw [List.length_take, List.length_drop]; omega
  generalize (S.drop (512 * (8 + (a - 1).toNat))).take 512 = Q at hrd hQl he ⊢
  have hsum := leaf1_ac c tag Q m 0 512 none ht (by omega) (by decide) (by decide)
  rw [List.drop_zero, List.take_of_length_le (by omega)] at hsum
  have heq := equal_ac (leafF tag m Q) r 32 (some 32) (some 32) (leafF_length _ _ _) hr (by decide)
  rw [decide_eq_true he] at heq
  have hFl := leafF_length tag m Q
  generalize leafF tag m Q = sum at hsum hFl heq he
  have q0 : decide (a = BitVec.ofNat 32 (Int.toNat 0)) = false := decide_eq_false (fun e => by rw [e] at ha0; exact absurd ha0 (by decide))
  refine acA tab mix Tryd.func83 {} ?_
  cases ls
  · repeat first | refine EffG.mk (obA ?_) | refine obA ?_ | refine chkA ?_ | refine brY ?_ | refine brN ?_
    rw [q0]
    repeat first | refine EffG.mk (obA ?_) | refine obA ?_ | refine chkA ?_ | refine brY ?_ | refine brN ?_
    refine brN ?_ (decide_eq_false (show ¬ 65536 < a.toNat by omega))
    repeat first | refine EffG.mk (obA ?_) | refine obA ?_ | refine chkA ?_ | refine brY ?_ | refine brN ?_
    refine callA hpl [] ?_
    repeat first | refine EffG.mk (obA ?_) | refine obA ?_ | refine chkA ?_ | refine brY ?_ | refine brN ?_
    refine callA hsz [4, 0, 5] ?_
    repeat first | refine EffG.mk (obA ?_) | refine obA ?_ | refine chkA ?_ | refine brY ?_ | refine brN ?_
    refine callA hrd [0, 1, 2, 3] ?_
    repeat first | refine EffG.mk (obA ?_) | refine obA ?_ | refine chkA ?_ | refine brY ?_ | refine brN ?_
    refine callA hsum [11, 8, 9, 4, 0, 5] ?_
    repeat first | refine EffG.mk (obA ?_) | refine obA ?_ | refine chkA ?_ | refine brY ?_ | refine brN ?_
    refine callA ((heq.arr 0 32).arrAt 1 32 [.fld 1] tRef (refD a r)) [12, 10] ?_
    repeat first | refine EffG.mk (obA ?_) | refine obA ?_ | refine chkA ?_ | refine brY ?_ | refine brN ?_
    refine retA [0, 1, 2, 3, 4, 5, 6, 7, 8, 9, 11]
  · repeat first | refine EffG.mk (obA ?_) | refine obA ?_ | refine chkA ?_ | refine brY ?_ | refine brN ?_
    rw [q0]
    repeat first | refine EffG.mk (obA ?_) | refine obA ?_ | refine chkA ?_ | refine brY ?_ | refine brN ?_
    refine brN ?_ (decide_eq_false (show ¬ 65536 < a.toNat by omega))
    repeat first | refine EffG.mk (obA ?_) | refine obA ?_ | refine chkA ?_ | refine brY ?_ | refine brN ?_
    refine callA hpl [] ?_
    repeat first | refine EffG.mk (obA ?_) | refine obA ?_ | refine chkA ?_ | refine brY ?_ | refine brN ?_
    refine callA hsz [4, 0, 5] ?_
    repeat first | refine EffG.mk (obA ?_) | refine obA ?_ | refine chkA ?_ | refine brY ?_ | refine brN ?_
    refine callA hrd [0, 1, 2, 3] ?_
    repeat first | refine EffG.mk (obA ?_) | refine obA ?_ | refine chkA ?_ | refine brY ?_ | refine brN ?_
    refine callA hsum [11, 8, 9, 4, 0, 5] ?_
    repeat first | refine EffG.mk (obA ?_) | refine obA ?_ | refine chkA ?_ | refine brY ?_ | refine brN ?_
    refine callA ((heq.arr 0 32).arrAt 1 32 [.fld 1] tRef (refD a r)) [12, 10] ?_
    repeat first | refine EffG.mk (obA ?_) | refine obA ?_ | refine chkA ?_ | refine brY ?_ | refine brN ?_
    refine retA [0, 1, 2, 3, 4, 5, 6, 7, 8, 9, 11]
/-- a cluster is read: its sum is as the ref says, or not -/
theorem sgetlN_ac (m : BitVec 32) (c : Nat) (tag : List (BitVec 8)) (k1 k2 : List (List (BitVec 8))) (most N : Nat) (cap : Option Nat) (N2 : Nat) (cap2 : Option Nat) (ls : List Lo) (st : Nat) (S : List (BitVec 8)) (a : BitVec 32) (r : List (BitVec 8))
    (hc : 1 ≤ c) (hc2 : c ≤ 64) (ht : tag.length = 32) (hr : r.length = 32) (hS : S.length = N) (ha0 : 1 ≤ a.toNat) (ha : a.toNat ≤ 65536) (hq : 512 * (8 + (a - 1).toNat) + 512 ≤ N) (hN : N < 70368744177664)
    (he : ¬ leafF tag m ((S.drop (512 * (8 + (a - 1).toNat))).take 512) = r) :
    AC Tryd.prog 83 [.ptr 4 [], refD a r, .fn 116 [] [.ptr 8 [], .ptr 9 []]] 10 (spM c tag k1 k2 most N cap N2 cap2 ls st S ++ [(8, some ⟨.cell, .ptr 4 [], true⟩), (9, some ⟨.cell, .u32 m, true⟩)])
      ⟨.tup [.nilslice, .i64 40], [], []⟩ := by
  have hs1 := sub1_toNat ha0
  have hsz := size_ac 0 0 c tag (by decide) (by decide)
  have hpl := place1_ac c (a - 1) hc hc2 (by omega)
  have hrd := dread_ac most N cap N2 cap2 ls st (512 * (8 + (a - 1).toNat)) 512 S hS hq hN
  have hQl : ((S.drop (512 * (8 + (a - 1).toNat))).take 512).length = 512 := by rw [List.length_take, List.length_drop]; omega
  generalize (S.drop (512 * (8 + (a - 1).toNat))).take 512 = Q at hrd hQl he
  have hsum := leaf1_ac c tag Q m 0 512 none ht (by omega) (by decide) (by decide)
  rw [List.drop_zero, List.take_of_length_le (by omega)] at hsum
  have heq := equal_ac (leafF tag m Q) r 32 (some 32) (some 32) (leafF_length _ _ _) hr (by decide)
  rw [decide_eq_false he] at heq
  have hFl := leafF_length tag m Q
  generalize leafF tag m Q = sum at hsum hFl heq he
  have q0 : decide (a = BitVec.ofNat 32 (Int.toNat 0)) = false := decide_eq_false (fun e => by rw [e] at ha0; exact absurd ha0 (by decide))
  refine acA tab mix Tryd.func83 {} ?_
  cases ls
  · repeat first | refine EffG.mk (obA ?_) | refine obA ?_ | refine chkA ?_ | refine brY ?_ | refine brN ?_
    rw [q0]
    repeat first | refine EffG.mk (obA ?_) | refine obA ?_ | refine chkA ?_ | refine brY ?_ | refine brN ?_
    refine brN ?_ (decide_eq_false (show ¬ 65536 < a.toNat by omega))
    repeat first | refine EffG.mk (obA ?_) | refine obA ?_ | refine chkA ?_ | refine brY ?_ | refine brN ?_
    refine callA hpl [] ?_
    repeat first | refine EffG.mk (obA ?_) | refine obA ?_ | refine chkA ?_ | refine brY ?_ | refine brN ?_
    refine callA hsz [4, 0, 5] ?_
    repeat first | refine EffG.mk (obA ?_) | refine obA ?_ | refine chkA ?_ | refine brY ?_ | refine brN ?_
    refine callA hrd [0, 1, 2, 3] ?_
    repeat first | refine EffG.mk (obA ?_) | refine obA ?_ | refine chkA ?_ | refine brY ?_ | refine brN ?_
    refine callA hsum [11, 8, 9, 4, 0, 5] ?_
    repeat first | refine EffG.mk (obA ?_) | refine obA ?_ | refine chkA ?_ | refine brY ?_ | refine brN ?_
    refine callA ((heq.arr 0 32).arrAt 1 32 [.fld 1] tRef (refD a r)) [12, 10] ?_
    repeat first | refine EffG.mk (obA ?_) | refine obA ?_ | refine chkA ?_ | refine brY ?_ | refine brN ?_
    refine retA [0, 1, 2, 3, 4, 5, 6, 7, 8, 9]
  · repeat first | refine EffG.mk (obA ?_) | refine obA ?_ | refine chkA ?_ | refine brY ?_ | refine brN ?_
    rw [q0]
    repeat first | refine EffG.mk (obA ?_) | refine obA ?_ | refine chkA ?_ | refine brY ?_ | refine brN ?_
    refine brN ?_ (decide_eq_false (show ¬ 65536 < a.toNat by omega))
    repeat first | refine EffG.mk (obA ?_) | refine obA ?_ | refine chkA ?_ | refine brY ?_ | refine brN ?_
    refine callA hpl [] ?_
    repeat first | refine EffG.mk (obA ?_) | refine obA ?_ | refine chkA ?_ | refine brY ?_ | refine brN ?_
    refine callA hsz [4, 0, 5] ?_
    repeat first | refine EffG.mk (obA ?_) | refine obA ?_ | refine chkA ?_ | refine brY ?_ | refine brN ?_
    refine callA hrd [0, 1, 2, 3] ?_
    repeat first | refine EffG.mk (obA ?_) | refine obA ?_ | refine chkA ?_ | refine brY ?_ | refine brN ?_
    refine callA hsum [11, 8, 9, 4, 0, 5] ?_
    repeat first | refine EffG.mk (obA ?_) | refine obA ?_ | refine chkA ?_ | refine brY ?_ | refine brN ?_
    refine callA ((heq.arr 0 32).arrAt 1 32 [.fld 1] tRef (refD a r)) [12, 10] ?_
    repeat first | refine EffG.mk (obA ?_) | refine obA ?_ | refine chkA ?_ | refine brY ?_ | refine brN ?_
    refine retA [0, 1, 2, 3, 4, 5, 6, 7, 8, 9]
end Go.Proofs.YtodkhgofmgaafaaDoor.Av

namespace Go.Proofs.YtodkhgofmgaafaaDoor.Av
open Go
set_option linter.all false
set_option maxRecDepth 3000

theorem rows_sched (key : List (BitVec 8)) (hk : key.length = 32) : Rows 15 16 (schedF key) := ⟨schedF_length key, schedF_lens key hk⟩

theorem xback_aux (k1 k2 : List (List (BitVec 8))) (bs : List (BitVec 8)) (o m : Nat) (s : BitVec 64) (hm : o + 512 * m ≤ bs.length) : ovI (decF k1) k2 (ovI (encF k1) k2 bs o s m) 0 s m = (bs.drop o).take (512 * m) :=
  ov_back (f := encF k1) (g := decF k1) (fun p hp => encI_length k1 p hp 14) (fun p hp => by unfold encF; exact dec_enc k1 p hp) k2 bs o m s hm
theorem seal_length (k1 k2 : List (List (BitVec 8))) (bs : List (BitVec 8)) (o m : Nat) (s : BitVec 64) (hm : o + 512 * m ≤ bs.length) : (ovI (encF k1) k2 bs o s m).length = 512 * m :=
  ovI_length (fun p hp => encI_length k1 p hp 14) k2 s hm m (Nat.le_refl _)
end Go.Proofs.YtodkhgofmgaafaaDoor.Av

namespace Go.Proofs.YtodkhgofmgaafaaDoor.Av
open Go
set_option linter.all false
set_option maxRecDepth 3000

def sealF (k1 k2 : List (List (BitVec 8))) (bs : List (BitVec 8)) (o : Nat) (n : BitVec 32) : List (BitVec 8) := ovI (encF k1) k2 bs o (BitVec.ofNat 64 (8 + n.toNat)) 1
def openF (k1 k2 : List (List (BitVec 8))) (bs : List (BitVec 8)) (n : BitVec 32) : List (BitVec 8) := ovI (decF k1) k2 bs 0 (BitVec.ofNat 64 (8 + n.toNat)) 1
theorem sealF_length {k1 : List (List (BitVec 8))} (k2 : List (List (BitVec 8))) {bs : List (BitVec 8)} {o : Nat} (n : BitVec 32) (h : o + 512 ≤ bs.length) : (sealF k1 k2 bs o n).length = 512 := seal_length k1 k2 bs o 1 _ h
theorem open_seal {k1 : List (List (BitVec 8))} (k2 : List (List (BitVec 8))) {bs : List (BitVec 8)} {o : Nat} (n : BitVec 32) (h : o + 512 ≤ bs.length) : openF k1 k2 (sealF k1 k2 bs o n) n = (bs.drop o).take 512 := xback_aux k1 k2 bs o 1 _ h

theorem pad512_self {b : List (BitVec 8)} (h : b.length = 512) : pad512 b = b := by rw [pad512, h]; simp

theorem sputdata_ac (c : Nat) (tag : List (BitVec 8)) (k1 k2 : List (List (BitVec 8))) (most N : Nat) (cap : Option Nat) (N2 : Nat) (cap2 : Option Nat) (ls : List Lo) (st : Nat) (S : List (BitVec 8)) (n : BitVec 32) (B : List (BitVec 8)) (o : Nat) (cap3 : Option Nat)
    (h1 : Rows 15 16 k1) (h2 : Rows 15 16 k2)
    (hc : 1 ≤ c) (hc2 : c ≤ 64) (ht : tag.length = 32) (hls : ∀ x ∈ ls, x.bytes.length = 512) (hS : S.length = N) (hn : n.toNat ≤ 65535) (hq : 512 * (8 + n.toNat) + 512 ≤ N) (hB : o + 512 ≤ B.length) (hB2 : B.length < 9223372036854775808) (hN : N ≤ most) (hm : most ≤ 16777216) (hl : ls.length < 1000) (hst : st < 1000) :
    AC Tryd.prog 37 [.ptr 4 [], .u32 n, .slice 8 [] o 512 cap3] 9 (spM c tag k1 k2 most N cap N2 cap2 ls st S ++ [(8, some ⟨.row .cell, .u8s B, false⟩)])
      ⟨.tup [refD (n + 1) (leafF tag (n + 1) (sealF k1 k2 B o n)), .i64 0], (looM 3 ls).map (fun p => (p.1, none)) ++ [(0, some (dvD most N cap N2 cap2 (.slice 9 [] 0 (ls.length + 1) none) (st + 1))), (1, some (.u8s (layF S (sealF k1 k2 B o n) (512 * (8 + n.toNat)))))],
       [(.row tLo, losD (ls ++ [loF (layF S (sealF k1 k2 B o n) (512 * (8 + n.toNat))) (8 + n.toNat)]))]⟩ := by
  have hsz := size_ac 0 0 c tag (by decide) (by decide)
  have hse := sector_ac c tag n hc hc2 hn
  have hsl := seal_ac (.row .cell) (.inl rfl) k1 k2 h1 h2 B o 1 cap3 (BitVec.ofNat 64 (8 + n.toNat)) hB (by decide) hB2
  have hQl := sealF_length (k1 := k1) k2 n hB
  rw [show ovI (encF k1) k2 B o (BitVec.ofNat 64 (8 + n.toNat)) 1 = sealF k1 k2 B o n from rfl] at hsl
  generalize sealF k1 k2 B o n = Q at hsl hQl ⊢
  have hlf := leaf_ac (n + 1)
  have hp := sputl_ac (n + 1) c tag k1 k2 most N cap N2 cap2 ls st S n Q 0 512 none hc hc2 ht hls hS hn hq (by omega) (by decide) hN hm hl hst
  rw [List.drop_zero, List.take_of_length_le (by omega), pad512_self hQl] at hp
  have hy := leafF_length tag (n + 1) Q
  generalize leafF tag (n + 1) Q = y at hp hy ⊢
  generalize layF S Q (512 * (8 + n.toNat)) = S' at hp ⊢
  refine acA tab mix Tryd.func37 {} ?_
  cases ls
  · repeat first | refine EffG.mk (obA ?_) | refine obA ?_ | refine chkA ?_ | refine brY ?_ | refine brN ?_
    refine brN ?_ (decide_eq_false (show ¬ 65535 < n.toNat by omega))
    repeat first | refine EffG.mk (obA ?_) | refine obA ?_ | refine chkA ?_ | refine brY ?_ | refine brN ?_
    refine callA hsz [4, 0, 5] ?_
    repeat first | refine EffG.mk (obA ?_) | refine obA ?_ | refine chkA ?_ | refine brY ?_ | refine brN ?_
    refine callA hse [4, 0, 5] ?_
    repeat first | refine EffG.mk (obA ?_) | refine obA ?_ | refine chkA ?_ | refine brY ?_ | refine brN ?_
    refine callA hsl [5, 6, 7, 8] ?_
    repeat first | refine EffG.mk (obA ?_) | refine obA ?_ | refine chkA ?_ | refine brY ?_ | refine brN ?_
    refine callA hlf [4] ?_
    repeat first | refine EffG.mk (obA ?_) | refine obA ?_ | refine chkA ?_ | refine brY ?_ | refine brN ?_
    refine callA hp [0, 1, 2, 3, 4, 5, 6, 7, 10, 11, 12] ?_
    repeat first | refine EffG.mk (obA ?_) | refine obA ?_ | refine chkA ?_ | refine brY ?_ | refine brN ?_
    refine retA [0, 1, 2, 3, 4, 5, 6, 7, 8, 13]
  · repeat first | refine EffG.mk (obA ?_) | refine obA ?_ | refine chkA ?_ | refine brY ?_ | refine brN ?_
    refine brN ?_ (decide_eq_false (show ¬ 65535 < n.toNat by omega))
    repeat first | refine EffG.mk (obA ?_) | refine obA ?_ | refine chkA ?_ | refine brY ?_ | refine brN ?_
    refine callA hsz [4, 0, 5] ?_
    repeat first | refine EffG.mk (obA ?_) | refine obA ?_ | refine chkA ?_ | refine brY ?_ | refine brN ?_
    refine callA hse [4, 0, 5] ?_
    repeat first | refine EffG.mk (obA ?_) | refine obA ?_ | refine chkA ?_ | refine brY ?_ | refine brN ?_
    refine callA hsl [5, 6, 7, 8] ?_
    repeat first | refine EffG.mk (obA ?_) | refine obA ?_ | refine chkA ?_ | refine brY ?_ | refine brN ?_
    refine callA hlf [4] ?_
    repeat first | refine EffG.mk (obA ?_) | refine obA ?_ | refine chkA ?_ | refine brY ?_ | refine brN ?_
    refine callA hp [0, 1, 2, 3, 4, 5, 6, 7, 10, 11, 12] ?_
    repeat first | refine EffG.mk (obA ?_) | refine obA ?_ | refine chkA ?_ | refine brY ?_ | refine brN ?_
    refine retA [0, 1, 2, 3, 4, 5, 6, 7, 8, 13]

theorem sdata_ac (c : Nat) (tag : List (BitVec 8)) (k1 k2 : List (List (BitVec 8))) (most N : Nat) (cap : Option Nat) (N2 : Nat) (cap2 : Option Nat) (ls : List Lo) (st : Nat) (S : List (BitVec 8)) (a : BitVec 32) (r : List (BitVec 8))
    (h1 : Rows 15 16 k1) (h2 : Rows 15 16 k2)
    (hc : 1 ≤ c) (hc2 : c ≤ 64) (ht : tag.length = 32) (hr : r.length = 32) (hS : S.length = N) (ha0 : 1 ≤ a.toNat) (ha : a.toNat ≤ 65536) (hq : 512 * (8 + (a - 1).toNat) + 512 ≤ N) (hN : N < 70368744177664)
    (he : leafF tag a ((S.drop (512 * (8 + (a - 1).toNat))).take 512) = r) :
    AC Tryd.prog 39 [.ptr 4 [], refD a r] 8 (spM c tag k1 k2 most N cap N2 cap2 ls st S)
      ⟨.tup [.slice 8 [] 0 512 none, .i64 0], [], [(.row .cell, .u8s (openF k1 k2 ((S.drop (512 * (8 + (a - 1).toNat))).take 512) (a - 1)))]⟩ := by
  have hs1 := sub1_toNat ha0
  have hlf := leaf_ac a
  have hse := sector_ac c tag (a - 1) hc hc2 (by omega)
  have hg := sgetl_ac a c tag k1 k2 most N cap N2 cap2 ls st S a r hc hc2 ht hr hS ha0 ha hq hN he
  have hQl : ((S.drop (512 * (8 + (a - 1).toNat))).take 512).length = 512 := by rw [List.length_take, List.length_drop]; omega
  clear he
  generalize (S.drop (512 * (8 + (a - 1).toNat))).take 512 = Q at hg hQl ⊢
  have hop := xopen_ac (.row .cell) (.inl rfl) k1 k2 h1 h2 Q 0 1 none (BitVec.ofNat 64 (8 + (a - 1).toNat)) (by omega) (by decide) (by omega)
  rw [show ovI (decF k1) k2 Q 0 (BitVec.ofNat 64 (8 + (a - 1).toNat)) 1 = openF k1 k2 Q (a - 1) from rfl] at hop
  generalize openF k1 k2 Q (a - 1) = P at hop ⊢
  refine acA tab mix Tryd.func39 {} ?_
  cases ls
  · repeat first | refine EffG.mk (obA ?_) | refine obA ?_ | refine chkA ?_ | refine brY ?_ | refine brN ?_
    refine callA hlf [4] ?_
    repeat first | refine EffG.mk (obA ?_) | refine obA ?_ | refine chkA ?_ | refine brY ?_ | refine brN ?_
    refine callA hg [0, 1, 2, 3, 4, 5, 6, 7, 9, 10] ?_
    repeat first | refine EffG.mk (obA ?_) | refine obA ?_ | refine chkA ?_ | refine brY ?_ | refine brN ?_
    refine callA hse [4, 0, 5] ?_
    repeat first | refine EffG.mk (obA ?_) | refine obA ?_ | refine chkA ?_ | refine brY ?_ | refine brN ?_
    refine callA hop [5, 6, 7, 11] ?_
    repeat first | refine EffG.mk (obA ?_) | refine obA ?_ | refine chkA ?_ | refine brY ?_ | refine brN ?_
    refine retA [0, 1, 2, 3, 4, 5, 6, 7, 12]
  · repeat first | refine EffG.mk (obA ?_) | refine obA ?_ | refine chkA ?_ | refine brY ?_ | refine brN ?_
    refine callA hlf [4] ?_
    repeat first | refine EffG.mk (obA ?_) | refine obA ?_ | refine chkA ?_ | refine brY ?_ | refine brN ?_
    refine callA hg [0, 1, 2, 3, 4, 5, 6, 7, 9, 10] ?_
    repeat first | refine EffG.mk (obA ?_) | refine obA ?_ | refine chkA ?_ | refine brY ?_ | refine brN ?_
    refine callA hse [4, 0, 5] ?_
    repeat first | refine EffG.mk (obA ?_) | refine obA ?_ | refine chkA ?_ | refine brY ?_ | refine brN ?_
    refine callA hop [5, 6, 7, 11] ?_
    repeat first | refine EffG.mk (obA ?_) | refine obA ?_ | refine chkA ?_ | refine brY ?_ | refine brN ?_
    refine retA [0, 1, 2, 3, 4, 5, 6, 7, 12]
theorem sdataN_ac (c : Nat) (tag : List (BitVec 8)) (k1 k2 : List (List (BitVec 8))) (most N : Nat) (cap : Option Nat) (N2 : Nat) (cap2 : Option Nat) (ls : List Lo) (st : Nat) (S : List (BitVec 8)) (a : BitVec 32) (r : List (BitVec 8))
    (hc : 1 ≤ c) (hc2 : c ≤ 64) (ht : tag.length = 32) (hr : r.length = 32) (hS : S.length = N) (ha0 : 1 ≤ a.toNat) (ha : a.toNat ≤ 65536) (hq : 512 * (8 + (a - 1).toNat) + 512 ≤ N) (hN : N < 70368744177664)
    (he : ¬ leafF tag a ((S.drop (512 * (8 + (a - 1).toNat))).take 512) = r) :
    AC Tryd.prog 39 [.ptr 4 [], refD a r] 8 (spM c tag k1 k2 most N cap N2 cap2 ls st S)
      ⟨.tup [.nilslice, .i64 40], [], []⟩ := by
  have hlf := leaf_ac a
  have hg := sgetlN_ac a c tag k1 k2 most N cap N2 cap2 ls st S a r hc hc2 ht hr hS ha0 ha hq hN he
  clear he
  refine acA tab mix Tryd.func39 {} ?_
  cases ls
  · repeat first | refine EffG.mk (obA ?_) | refine obA ?_ | refine chkA ?_ | refine brY ?_ | refine brN ?_
    refine callA hlf [4] ?_
    repeat first | refine EffG.mk (obA ?_) | refine obA ?_ | refine chkA ?_ | refine brY ?_ | refine brN ?_
    refine callA hg [0, 1, 2, 3, 4, 5, 6, 7, 9, 10] ?_
    repeat first | refine EffG.mk (obA ?_) | refine obA ?_ | refine chkA ?_ | refine brY ?_ | refine brN ?_
    refine retA [0, 1, 2, 3, 4, 5, 6, 7]
  · repeat first | refine EffG.mk (obA ?_) | refine obA ?_ | refine chkA ?_ | refine brY ?_ | refine brN ?_
    refine callA hlf [4] ?_
    repeat first | refine EffG.mk (obA ?_) | refine obA ?_ | refine chkA ?_ | refine brY ?_ | refine brN ?_
    refine callA hg [0, 1, 2, 3, 4, 5, 6, 7, 9, 10] ?_
    repeat first | refine EffG.mk (obA ?_) | refine obA ?_ | refine chkA ?_ | refine brY ?_ | refine brN ?_
    refine retA [0, 1, 2, 3, 4, 5, 6, 7]

def pageF (b : List (BitVec 8)) : List (BitVec 8) := shaF (pageS ++ b)
theorem pageF_length (b : List (BitVec 8)) : (pageF b).length = 32 := shaF_length _
theorem page_f (bs : List (BitVec 8)) (h : bs.length = 512) : AC Tryd.prog 43 [.slice 0 [] 0 512 none] 1 [(0, some ⟨.row .cell, .u8s bs, false⟩), gR] ⟨.u8s (pageF bs), [], []⟩ := by
  have := npage_ac bs 0 512 none (by omega) (by decide) (by decide)
  rw [List.drop_zero, List.take_of_length_le (by omega)] at this
  exact this
def nodeF (b : List (BitVec 8)) : List (BitVec 8) := shaF (nodeS ++ b)
theorem nodeF_length (b : List (BitVec 8)) : (nodeF b).length = 32 := shaF_length _
theorem node_f (bs : List (BitVec 8)) (h : bs.length = 512) : AC Tryd.prog 44 [.slice 0 [] 0 512 none] 1 [(0, some ⟨.row .cell, .u8s bs, false⟩), gR] ⟨.u8s (nodeF bs), [], []⟩ := by
  have := nsum_ac bs 0 512 none (by omega) (by decide) (by decide)
  rw [List.drop_zero, List.take_of_length_le (by omega)] at this
  exact this

theorem spage_ac (c : Nat) (tag : List (BitVec 8)) (k1 k2 : List (List (BitVec 8))) (most N : Nat) (cap : Option Nat) (N2 : Nat) (cap2 : Option Nat) (ls : List Lo) (st : Nat) (S : List (BitVec 8)) (a : BitVec 32) (r : List (BitVec 8))
    (hc : 1 ≤ c) (hc2 : c ≤ 64) (hr : r.length = 32) (hS : S.length = N) (ha0 : 1 ≤ a.toNat) (ha : a.toNat ≤ 65536) (hq : 512 * (8 + (a - 1).toNat) + 512 ≤ N) (hN : N < 70368744177664)
    (he : pageF ((S.drop (512 * (8 + (a - 1).toNat))).take 512) = r) :
    AC Tryd.prog 41 [.ptr 4 [], refD a r] 8 (spM c tag k1 k2 most N cap N2 cap2 ls st S)
      ⟨.tup [.slice 8 [] 0 512 none, .i64 0], [], [(.row .cell, .u8s ((S.drop (512 * (8 + (a - 1).toNat))).take 512))]⟩ := by
  have hg := sget_ac 43 pageF pageF_length page_f c tag k1 k2 most N cap N2 cap2 ls st S a r hc hc2 hr hS ha0 ha hq hN he
  clear he
  generalize (S.drop (512 * (8 + (a - 1).toNat))).take 512 = Q at hg ⊢
  refine acA tab mix Tryd.func41 {} ?_
  cases ls
  · repeat first | refine EffG.mk (obA ?_) | refine obA ?_ | refine chkA ?_ | refine brY ?_ | refine brN ?_
    refine callA hg [0, 1, 2, 3, 4, 5, 6, 7] ?_
    repeat first | refine EffG.mk (obA ?_) | refine obA ?_ | refine chkA ?_ | refine brY ?_ | refine brN ?_
    refine retA [0, 1, 2, 3, 4, 5, 6, 7, 9]
  · repeat first | refine EffG.mk (obA ?_) | refine obA ?_ | refine chkA ?_ | refine brY ?_ | refine brN ?_
    refine callA hg [0, 1, 2, 3, 4, 5, 6, 7] ?_
    repeat first | refine EffG.mk (obA ?_) | refine obA ?_ | refine chkA ?_ | refine brY ?_ | refine brN ?_
    refine retA [0, 1, 2, 3, 4, 5, 6, 7, 9]
theorem spageN_ac (c : Nat) (tag : List (BitVec 8)) (k1 k2 : List (List (BitVec 8))) (most N : Nat) (cap : Option Nat) (N2 : Nat) (cap2 : Option Nat) (ls : List Lo) (st : Nat) (S : List (BitVec 8)) (a : BitVec 32) (r : List (BitVec 8))
    (hc : 1 ≤ c) (hc2 : c ≤ 64) (hr : r.length = 32) (hS : S.length = N) (ha0 : 1 ≤ a.toNat) (ha : a.toNat ≤ 65536) (hq : 512 * (8 + (a - 1).toNat) + 512 ≤ N) (hN : N < 70368744177664)
    (he : ¬ pageF ((S.drop (512 * (8 + (a - 1).toNat))).take 512) = r) :
    AC Tryd.prog 41 [.ptr 4 [], refD a r] 8 (spM c tag k1 k2 most N cap N2 cap2 ls st S)
      ⟨.tup [.nilslice, .i64 40], [], []⟩ := by
  have hg := sgetN_ac 43 pageF pageF_length page_f c tag k1 k2 most N cap N2 cap2 ls st S a r hc hc2 hr hS ha0 ha hq hN he
  clear he
  refine acA tab mix Tryd.func41 {} ?_
  cases ls
  · repeat first | refine EffG.mk (obA ?_) | refine obA ?_ | refine chkA ?_ | refine brY ?_ | refine brN ?_
    refine callA hg [0, 1, 2, 3, 4, 5, 6, 7] ?_
    repeat first | refine EffG.mk (obA ?_) | refine obA ?_ | refine chkA ?_ | refine brY ?_ | refine brN ?_
    refine retA [0, 1, 2, 3, 4, 5, 6, 7]
  · repeat first | refine EffG.mk (obA ?_) | refine obA ?_ | refine chkA ?_ | refine brY ?_ | refine brN ?_
    refine callA hg [0, 1, 2, 3, 4, 5, 6, 7] ?_
    repeat first | refine EffG.mk (obA ?_) | refine obA ?_ | refine chkA ?_ | refine brY ?_ | refine brN ?_
    refine retA [0, 1, 2, 3, 4, 5, 6, 7]

def oneS : List (BitVec 8) := [100, 97, 116, 97, 32, 111, 110, 101]
def twoS : List (BitVec 8) := [100, 97, 116, 97, 32, 116, 119, 111]
def tagS : List (BitVec 8) := [116, 97, 103]
theorem snew_ac (c : Nat) (K : List (BitVec 8)) (hc : 1 ≤ c) (hc2 : c ≤ 64) (hK : K.length = 32) (hne : ¬ shaF (supB c 1 ++ List.replicate (512 - 13) 0) = List.replicate 32 0) :
    AC Tryd.prog 34 [.ptr 0 [], geoD c 1, .u8s K] 1 [gR]
      ⟨.ptr 1 [], [], [(tSp, spD 0 2 c (labF K tagS)), (tX, .node [.ptr 3 [], .ptr 4 []]), (tC, keysD (schedF (labF K oneS))), (tC, keysD (schedF (labF K twoS)))]⟩ := by
  have hs := ssum_ac c 1 hc hc2 (by decide) (by decide)
  have l1 := label_ac K oneS hK (by decide) (by decide)
  have l2 := label_ac K twoS hK (by decide) (by decide)
  have l3 := label_ac K tagS hK (by decide) (by decide)
  have y1 := labF_length K oneS
  have y2 := labF_length K twoS
  have y3 := labF_length K tagS
  generalize labF K oneS = z1 at l1 y1 ⊢
  generalize labF K twoS = z2 at l2 y2 ⊢
  generalize labF K tagS = z3 at l3 y3 ⊢
  have hx := xnew_ac z1 z2 y1 y2
  generalize schedF z1 = k1 at hx ⊢
  generalize schedF z2 = k2 at hx ⊢
  have hy := shaF_length (supB c 1 ++ List.replicate (512 - 13) 0)
  generalize shaF (supB c 1 ++ List.replicate (512 - 13) 0) = sm at hs hne hy
  refine acA tab mix Tryd.func34 {} ?_
  repeat first | refine EffG.mk (obA ?_) | refine obA ?_ | refine chkA ?_ | refine brY ?_ | refine brN ?_
  refine callA hs [] ?_
  repeat first | refine EffG.mk (obA ?_) | refine obA ?_ | refine chkA ?_ | refine brY ?_ | refine brN ?_
  refine callA l1 [] ?_
  repeat first | refine EffG.mk (obA ?_) | refine obA ?_ | refine chkA ?_ | refine brY ?_ | refine brN ?_
  refine callA l2 [] ?_
  repeat first | refine EffG.mk (obA ?_) | refine obA ?_ | refine chkA ?_ | refine brY ?_ | refine brN ?_
  refine callA hx [] ?_
  repeat first | refine EffG.mk (obA ?_) | refine obA ?_ | refine chkA ?_ | refine brY ?_ | refine brN ?_
  refine callA l3 [] ?_
  repeat first | refine EffG.mk (obA ?_) | refine obA ?_ | refine chkA ?_ | refine brY ?_ | refine brN ?_
  refine retA [0, 6, 3, 4, 5]
end Go.Proofs.YtodkhgofmgaafaaDoor.Av

namespace Go.Proofs.YtodkhgofmgaafaaDoor.Av
open Go
set_option linter.all false
set_option maxRecDepth 3000

theorem layF_at {S B : List (BitVec 8)} {p : Nat} (h : p + B.length ≤ S.length) : ((layF S B p).drop p).take B.length = B := by
  rw [layF, List.append_assoc, List.drop_append_of_le_length (by simp; omega), List.drop_of_length_le (by simp; omega), List.nil_append, List.take_append_of_le_length (Nat.le_refl _), List.take_of_length_le (Nat.le_refl _)]
theorem layF_getD {S B : List (BitVec 8)} {p : Nat} (h : p + B.length ≤ S.length) (i : Nat) : (layF S B p).getD i 0 = if p ≤ i ∧ i < p + B.length then B.getD (i - p) 0 else S.getD i 0 := by
  simp only [layF, List.getD_eq_getElem?_getD, List.getElem?_append, List.length_append, List.length_take, List.getElem?_drop, List.getElem?_take]
  by_cases h1 : i < p
  · rw [if_pos (by omega), if_pos (by omega), if_pos h1, if_neg (by omega)]
  · by_cases h2 : i < p + B.length
    · rw [if_pos (by omega), if_neg (by omega), if_pos ⟨by omega, h2⟩]; congr 3; omega
    · rw [if_neg (by omega), if_neg (by omega)]; congr 2; congr 1; omega
theorem layF_off {S B : List (BitVec 8)} {p q n : Nat} (h : p + B.length ≤ S.length) (hq : q + n ≤ S.length) (ho : q + n ≤ p ∨ p + B.length ≤ q) : ((layF S B p).drop q).take n = (S.drop q).take n := by
  refine eq_getD (by simp [layF_length h]) fun i hi => ?_
  have hi' : i < n := by simp [layF_length h] at hi; omega
  have e : ∀ l : List (BitVec 8), ((l.drop q).take n).getD i 0 = l.getD (q + i) 0 := fun l => by
    simp [List.getD_eq_getElem?_getD, List.getElem?_take, hi']
  rw [e, e, layF_getD h, if_neg (by omega)]

abbrev zB (n : Nat) : List (BitVec 8) := List.replicate n 0
theorem begun_ac : AC Tryd.prog 31 [] 0 [] ⟨.ptr 0 [], [], [(tDv, dvD 32768 16384 none 16384 none .nilslice 0), (.row .cell, .u8s (zB 16384)), (.row .cell, .u8s (zB 16384))]⟩ := by
  have h1 := dnew_ac 32768
  have h2 := dload_ac 32768 16384 0 (zB 16384) none (by simp) (by decide) (by decide)
  rw [List.drop_zero, List.take_of_length_le (by simp)] at h2
  refine acA tab mix Tryd.func31 {} ?_
  repeat first | refine EffG.mk (obA ?_) | refine obA ?_ | refine chkA ?_ | refine brY ?_ | refine brN ?_
  refine callA h1 [] ?_
  repeat first | refine EffG.mk (obA ?_) | refine obA ?_ | refine chkA ?_ | refine brY ?_ | refine brN ?_
  refine callA h2 [0, 1] ?_
  repeat first | refine EffG.mk (obA ?_) | refine obA ?_ | refine chkA ?_ | refine brY ?_ | refine brN ?_
  refine retA [0, 2, 3]
end Go.Proofs.YtodkhgofmgaafaaDoor.Av

namespace Go.Proofs.YtodkhgofmgaafaaDoor.Av
open Go
set_option linter.all false
set_option maxRecDepth 3000

/-! the closed case of the clusters: printed by gen_dvk.py -/
def key1 : List (BitVec 8) := (List.replicate 32 0).set 0 1
theorem shaL {m o : List (BitVec 8)} (a : Nat) (h1 : shaE m a = o) (h3 : (m.length + 9 + zN m.length) / 64 = a) : shaF m = o := by rw [shaE_eq _ a h3, h1]
theorem hmL {key m i o : List (BitVec 8)} (a : Nat) (h1 : shaE (ipF key ++ m) a = i) (h2 : shaE (opF key ++ i) 2 = o) (h3 : ((ipF key ++ m).length + 9 + zN (ipF key ++ m).length) / 64 = a) (h4 : ((opF key ++ i).length + 9 + zN (opF key ++ i).length) / 64 = 2) : hmF key m = o := by
  rw [hmF, shaE_eq _ a h3, h1, shaE_eq _ 2 h4, h2]
def geoE : List (BitVec 8) := [157, 8, 59, 143, 216, 229, 174, 128, 244, 185, 180, 107, 227, 128, 194, 213, 5, 64, 150, 233, 146, 241, 47, 164, 90, 6, 184, 239, 140, 98, 8, 162]
theorem geo_eq : shaF (supB 8 1 ++ List.replicate (512 - 13) 0) = geoE := shaL 9 (by kernel_rfl) (by kernel_rfl)
theorem geo_ne : ¬ shaF (supB 8 1 ++ List.replicate (512 - 13) 0) = List.replicate 32 0 := by rw [geo_eq]; decide
def tgI : List (BitVec 8) := [227, 147, 241, 218, 148, 246, 189, 150, 250, 148, 119, 231, 229, 64, 48, 51, 196, 24, 67, 122, 97, 143, 152, 230, 135, 162, 217, 143, 145, 162, 85, 165]
def tgE : List (BitVec 8) := [49, 188, 77, 58, 4, 54, 121, 98, 164, 181, 240, 69, 159, 75, 147, 208, 227, 187, 37, 71, 130, 234, 162, 87, 83, 74, 79, 115, 86, 135, 179, 214]
theorem tg_eq : hmF key1 (oursF ++ tagS) = tgE := hmL (i := tgI) 2 (by kernel_rfl) (by kernel_rfl) (by kernel_rfl) (by kernel_rfl)
def lfI : List (BitVec 8) := [89, 146, 246, 194, 119, 170, 94, 106, 170, 33, 34, 199, 65, 210, 190, 193, 31, 136, 102, 122, 121, 233, 235, 52, 38, 228, 82, 172, 12, 25, 235, 196]
def lfE : List (BitVec 8) := [254, 22, 216, 108, 107, 81, 46, 81, 35, 155, 147, 153, 151, 65, 235, 91, 195, 3, 54, 136, 155, 161, 188, 38, 150, 177, 123, 167, 64, 27, 146, 175]
theorem lf_eq : hmF tgE (leafS ++ u4B 2 ++ zB 512) = lfE := hmL (i := lfI) 10 (by kernel_rfl) (by kernel_rfl) (by kernel_rfl) (by kernel_rfl)
theorem leaf2_ne : ¬ leafF (labF key1 tagS) 2 (zB 512) = List.replicate 32 0 := by rw [labF, tg_eq, leafF, lf_eq]; decide
end Go.Proofs.YtodkhgofmgaafaaDoor.Av

namespace Go.Proofs.YtodkhgofmgaafaaDoor.Av
open Go
set_option linter.all false
set_option maxRecDepth 3000

theorem zB_cut (m q n : Nat) (h : q + n ≤ m) : ((zB m).drop q).take n = zB n := by
  rw [List.drop_replicate, List.take_replicate, Nat.min_eq_left (by omega)]

theorem awake16_ac : AC Tryd.prog 38 [] 0 [gR] ⟨.bool true, [], []⟩ := by
  have hb := begun_ac
  have hn := snew_ac 8 key1 (by decide) (by decide) rfl geo_ne
  have h1 := rows_sched (labF key1 oneS) (labF_length _ _)
  have h2 := rows_sched (labF key1 twoS) (labF_length _ _)
  have ht := labF_length key1 tagS
  have hne := leaf2_ne
  generalize labF key1 tagS = tg at hn ht hne
  generalize schedF (labF key1 oneS) = k1 at hn h1
  generalize schedF (labF key1 twoS) = k2 at hn h2
  have hp := sputdata_ac 8 tg k1 k2 32768 16384 none 16384 none [] 0 (zB 16384) 0 (zB 512) 0 none h1 h2 (by decide) (by decide) ht (by simp) (by simp) (by decide) (by decide) (by simp) (by simp) (by decide) (by decide) (by decide) (by decide)
  have hQl := sealF_length (k1 := k1) k2 (bs := zB 512) (o := 0) 0 (by simp)
  have hop := open_seal (k1 := k1) k2 (bs := zB 512) (o := 0) 0 (by simp)
  rw [zB_cut 512 0 512 (by decide)] at hop
  generalize sealF k1 k2 (zB 512) 0 0 = Q at hp hQl hop
  have hS1 : ((layF (zB 16384) Q (512 * (8 + (0 : BitVec 32).toNat))).drop (512 * (8 + (0 : BitVec 32).toNat))).take 512 = Q := by
    have := layF_at (S := zB 16384) (B := Q) (p := 512 * (8 + (0 : BitVec 32).toNat)) (by rw [hQl]; simp)
    rw [hQl] at this; exact this
  have hS2 : ((layF (zB 16384) Q (512 * (8 + (0 : BitVec 32).toNat))).drop (512 * (8 + ((2 : BitVec 32) - 1).toNat))).take 512 = zB 512 := by
    rw [layF_off (by rw [hQl]; simp) (by simp) (.inr (by rw [hQl]; decide)), zB_cut _ _ _ (by decide)]
  have hSl : (layF (zB 16384) Q (512 * (8 + (0 : BitVec 32).toNat))).length = 16384 := by rw [layF_length (by rw [hQl]; simp)]; simp
  generalize layF (zB 16384) Q (512 * (8 + (0 : BitVec 32).toNat)) = S' at hp hS1 hS2 hSl
  have hyl := leafF_length tg (0 + 1) Q
  have hd1 := sdata_ac 8 tg k1 k2 32768 16384 none 16384 none [loF S' (8 + (0 : BitVec 32).toNat)] 1 S' 1 (leafF tg (0 + 1) Q) h1 h2 (by decide) (by decide) ht hyl hSl (by decide) (by decide) (by decide) (by decide) (by rw [show (1 : BitVec 32) - 1 = 0 from rfl, hS1]; rfl)
  rw [show (1 : BitVec 32) - 1 = 0 from rfl, hS1, hop] at hd1
  have hd2 := sdataN_ac 8 tg k1 k2 32768 16384 none 16384 none [loF S' (8 + (0 : BitVec 32).toNat)] 1 S' 2 (zB 32) (by decide) (by decide) ht (by simp) hSl (by decide) (by decide) (by decide) (by decide) (by rw [hS2]; exact hne)
  generalize leafF tg (0 + 1) Q = y at hp hd1 hyl
  refine acA tab mix Tryd.func38 {} ?_
  repeat first | refine EffG.mk (obA ?_) | refine obA ?_ | refine chkA ?_ | refine brY ?_ | refine brN ?_
  refine callA hb [] ?_
  repeat first | refine EffG.mk (obA ?_) | refine obA ?_ | refine chkA ?_ | refine brY ?_ | refine brN ?_
  refine callA hn [0] ?_
  repeat first | refine EffG.mk (obA ?_) | refine obA ?_ | refine chkA ?_ | refine brY ?_ | refine brN ?_
  refine callA hp [0, 1, 2, 2, 3, 4, 5, 6, 7] ?_
  repeat first | refine EffG.mk (obA ?_) | refine obA ?_ | refine chkA ?_ | refine brY ?_ | refine brN ?_
  refine callA hd1 [0, 1, 2, 8, 3, 4, 5, 6] ?_
  repeat first | refine EffG.mk (obA ?_) | refine obA ?_ | refine chkA ?_ | refine brY ?_ | refine brN ?_
  refine callA hd2 [0, 1, 2, 8, 3, 4, 5, 6] ?_
  repeat first | refine EffG.mk (obA ?_) | refine obA ?_ | refine chkA ?_ | refine brY ?_ | refine brN ?_
  refine retA []
end Go.Proofs.YtodkhgofmgaafaaDoor.Av

namespace Go.Proofs.YtodkhgofmgaafaaDoor.Av
open Go
set_option linter.all false
set_option maxRecDepth 3000

/-! nobody -/
abbrev node0 : D := .node (List.replicate 8 (.node [.u32 0, .u8s (List.replicate 32 0)]))
end Go.Proofs.YtodkhgofmgaafaaDoor.Av

namespace Go.Proofs.YtodkhgofmgaafaaDoor.Av
open Go
set_option linter.all false
set_option maxRecDepth 3000

/-! a node as bytes -/
theorem con_eq {a b c z : List (BitVec 8)} {n : Nat} (ha : a.length = n) (hb : b.length = 4) (hc : c.length = 32) :
    List.take (0 + n + 4) (List.take (0 + n) (List.take 0 z ++ List.take n a) ++ List.take 4 b) ++ List.take 32 c = a ++ b ++ c := by
  rw [List.take_zero, List.nil_append, List.take_of_length_le (l := a) (by omega), List.take_of_length_le (l := a) (by omega), List.take_of_length_le (l := b) (by omega), List.take_of_length_le (l := c) (by omega), List.take_of_length_le (by rw [List.length_append]; omega)]
theorem con_eqn {b c z : List (BitVec 8)} (hb : b.length = 4) (hc : c.length = 32) :
    List.take (0 + 0 + 4) (List.take (0 + 0) (List.take 0 z ++ []) ++ List.take 4 b) ++ List.take 32 c = b ++ c := by
  rw [List.take_zero, List.nil_append, List.take_of_length_le (l := b) (i := 4) (by omega), List.take_of_length_le (l := b) (by omega), List.take_of_length_le (l := c) (by omega)]
theorem concat3_ac (a b c : List (BitVec 8)) (n : Nat) (ha : a.length = n) (hb : b.length = 4) (hc : c.length = 32) (hn : n ≤ 1000000) :
    AC Tryd.prog 61 [.slice 0 [] 0 3 (some 3)] 4 [(0, some ⟨.row .cell, .node [.slice 1 [] 0 n none, .slice 2 [] 0 4 none, .slice 3 [] 0 32 (some 32)], true⟩),
      (1, some ⟨.row .cell, .u8s a, false⟩), (2, some ⟨.row .cell, .u8s b, false⟩), (3, some ⟨.row .cell, .u8s c, false⟩)]
      ⟨.slice 4 [] 0 (0 + n + 4 + 32) none, [], [(.row .cell, .u8s (a ++ b ++ c))]⟩ := by
  refine acA tab mix Tryd.func61 ⟨[], [3, 11]⟩ ?_
  repeat first | refine EffG.mk (obA ?_) | refine obA ?_ | refine chkA ?_
  refine unrG 4 ?_
  repeat first | refine EffG.mk (obA ?_) | refine obA ?_ | refine chkA ?_ | refine brY ?_ | refine brN ?_
  refine callA (grow_ac (0 + (n : Int) + 4 + 32) (by omega) (by omega)) [] ?_
  repeat first | refine EffG.mk (obA ?_) | refine obA ?_ | refine chkA ?_
  refine unrG 4 ?_
  repeat first | refine EffG.mk (obA ?_) | refine obA ?_ | refine chkA ?_ | refine brY ?_ | refine brN ?_
  refine ⟨0, ?_⟩
  repeat first | refine EffG.mk (obA ?_) | refine obA ?_ | refine chkA ?_ | refine brY ?_ | refine brN ?_
  refine ⟨0, ?_⟩
  repeat first | refine EffG.mk (obA ?_) | refine obA ?_ | refine chkA ?_ | refine brY ?_ | refine brN ?_
  refine ⟨0, ?_⟩
  repeat first | refine EffG.mk (obA ?_) | refine obA ?_ | refine chkA ?_ | refine brY ?_ | refine brN ?_
  refine retA [0, 1, 2, 3, 7] (h3 := ?_)
  (repeat' (first | exact trivial | refine And.intro ⟨_, rfl, rfl, ?_, id⟩ ?_ | refine And.intro ⟨_, rfl, rfl, ?_, fun _ => rfl⟩ ?_)) <;> first | rfl | exact congrArg D.u8s (con_eq ha hb hc)
theorem concat3n_ac (b c : List (BitVec 8)) (hb : b.length = 4) (hc : c.length = 32) :
    AC Tryd.prog 61 [.slice 0 [] 0 3 (some 3)] 3 [(0, some ⟨.row .cell, .node [.nilslice, .slice 1 [] 0 4 none, .slice 2 [] 0 32 (some 32)], true⟩),
      (1, some ⟨.row .cell, .u8s b, false⟩), (2, some ⟨.row .cell, .u8s c, false⟩)]
      ⟨.slice 3 [] 0 36 none, [], [(.row .cell, .u8s (b ++ c))]⟩ := by
  refine acA tab mix Tryd.func61 ⟨[], [3, 11]⟩ ?_
  repeat first | refine EffG.mk (obA ?_) | refine obA ?_ | refine chkA ?_
  refine unrG 4 ?_
  repeat first | refine EffG.mk (obA ?_) | refine obA ?_ | refine chkA ?_ | refine brY ?_ | refine brN ?_
  refine callA (grow_ac (0 + 0 + 4 + 32) (by omega) (by omega)) [] ?_
  repeat first | refine EffG.mk (obA ?_) | refine obA ?_ | refine chkA ?_
  refine unrG 4 ?_
  repeat first | refine EffG.mk (obA ?_) | refine obA ?_ | refine chkA ?_ | refine brY ?_ | refine brN ?_
  refine ⟨0, ?_⟩
  repeat first | refine EffG.mk (obA ?_) | refine obA ?_ | refine chkA ?_ | refine brY ?_ | refine brN ?_
  refine ⟨0, ?_⟩
  repeat first | refine EffG.mk (obA ?_) | refine obA ?_ | refine chkA ?_ | refine brY ?_ | refine brN ?_
  refine ⟨0, ?_⟩
  repeat first | refine EffG.mk (obA ?_) | refine obA ?_ | refine chkA ?_ | refine brY ?_ | refine brN ?_
  refine retA [0, 1, 2, 6] (h3 := ?_)
  (repeat' (first | exact trivial | refine And.intro ⟨_, rfl, rfl, ?_, id⟩ ?_ | refine And.intro ⟨_, rfl, rfl, ?_, fun _ => rfl⟩ ?_)) <;> first | rfl | exact congrArg D.u8s (con_eqn hb hc)

/-- a ref's bytes -/
def refB (a : BitVec 32) (s : List (BitVec 8)) : List (BitVec 8) := u4B a ++ s
theorem refB_length {a : BitVec 32} {s : List (BitVec 8)} (h : s.length = 32) : (refB a s).length = 36 := by rw [refB, List.length_append, u4B, nbF_length, h]
abbrev nodeD8 (a0 a1 a2 a3 a4 a5 a6 a7 : BitVec 32) (s0 s1 s2 s3 s4 s5 s6 s7 : List (BitVec 8)) : D := .node [refD a0 s0, refD a1 s1, refD a2 s2, refD a3 s3, refD a4 s4, refD a5 s5, refD a6 s6, refD a7 s7]
def node8B (a0 a1 a2 a3 a4 a5 a6 a7 : BitVec 32) (s0 s1 s2 s3 s4 s5 s6 s7 : List (BitVec 8)) : List (BitVec 8) := refB a0 s0 ++ refB a1 s1 ++ refB a2 s2 ++ refB a3 s3 ++ refB a4 s4 ++ refB a5 s5 ++ refB a6 s6 ++ refB a7 s7
set_option maxHeartbeats 4000000 in
theorem nput_ac (a0 a1 a2 a3 a4 a5 a6 a7 : BitVec 32) (s0 s1 s2 s3 s4 s5 s6 s7 : List (BitVec 8)) (h0 : s0.length = 32) (h1 : s1.length = 32) (h2 : s2.length = 32) (h3 : s3.length = 32) (h4 : s4.length = 32) (h5 : s5.length = 32) (h6 : s6.length = 32) (h7 : s7.length = 32) :
    AC Tryd.prog 78 [nodeD8 a0 a1 a2 a3 a4 a5 a6 a7 s0 s1 s2 s3 s4 s5 s6 s7] 0 [] ⟨.slice 0 [] 0 288 none, [], [(.row .cell, .u8s (node8B a0 a1 a2 a3 a4 a5 a6 a7 s0 s1 s2 s3 s4 s5 s6 s7))]⟩ := by
  have p0 := put32_ac a0
  have l0 := nbF_length (a0.setWidth 64) 4
  have c0 := concat3n_ac (nbF (a0.setWidth 64) 4) s0 l0 h0
  have y0 : (nbF (a0.setWidth 64) 4 ++ s0).length = 36 := by rw [List.length_append, l0, h0]
  have p1 := put32_ac a1
  have l1 := nbF_length (a1.setWidth 64) 4
  have c1 := concat3_ac (nbF (a0.setWidth 64) 4 ++ s0) (nbF (a1.setWidth 64) 4) s1 36 y0 l1 h1 (by decide)
  have y1 : ((nbF (a0.setWidth 64) 4 ++ s0) ++ nbF (a1.setWidth 64) 4 ++ s1).length = 72 := by rw [List.length_append, List.length_append, y0, l1, h1]
  have p2 := put32_ac a2
  have l2 := nbF_length (a2.setWidth 64) 4
  have c2 := concat3_ac ((nbF (a0.setWidth 64) 4 ++ s0) ++ nbF (a1.setWidth 64) 4 ++ s1) (nbF (a2.setWidth 64) 4) s2 72 y1 l2 h2 (by decide)
  have y2 : (((nbF (a0.setWidth 64) 4 ++ s0) ++ nbF (a1.setWidth 64) 4 ++ s1) ++ nbF (a2.setWidth 64) 4 ++ s2).length = 108 := by rw [List.length_append, List.length_append, y1, l2, h2]
  have p3 := put32_ac a3
  have l3 := nbF_length (a3.setWidth 64) 4
  have c3 := concat3_ac (((nbF (a0.setWidth 64) 4 ++ s0) ++ nbF (a1.setWidth 64) 4 ++ s1) ++ nbF (a2.setWidth 64) 4 ++ s2) (nbF (a3.setWidth 64) 4) s3 108 y2 l3 h3 (by decide)
  have y3 : ((((nbF (a0.setWidth 64) 4 ++ s0) ++ nbF (a1.setWidth 64) 4 ++ s1) ++ nbF (a2.setWidth 64) 4 ++ s2) ++ nbF (a3.setWidth 64) 4 ++ s3).length = 144 := by rw [List.length_append, List.length_append, y2, l3, h3]
  have p4 := put32_ac a4
  have l4 := nbF_length (a4.setWidth 64) 4
  have c4 := concat3_ac ((((nbF (a0.setWidth 64) 4 ++ s0) ++ nbF (a1.setWidth 64) 4 ++ s1) ++ nbF (a2.setWidth 64) 4 ++ s2) ++ nbF (a3.setWidth 64) 4 ++ s3) (nbF (a4.setWidth 64) 4) s4 144 y3 l4 h4 (by decide)
  have y4 : (((((nbF (a0.setWidth 64) 4 ++ s0) ++ nbF (a1.setWidth 64) 4 ++ s1) ++ nbF (a2.setWidth 64) 4 ++ s2) ++ nbF (a3.setWidth 64) 4 ++ s3) ++ nbF (a4.setWidth 64) 4 ++ s4).length = 180 := by rw [List.length_append, List.length_append, y3, l4, h4]
  have p5 := put32_ac a5
  have l5 := nbF_length (a5.setWidth 64) 4
  have c5 := concat3_ac (((((nbF (a0.setWidth 64) 4 ++ s0) ++ nbF (a1.setWidth 64) 4 ++ s1) ++ nbF (a2.setWidth 64) 4 ++ s2) ++ nbF (a3.setWidth 64) 4 ++ s3) ++ nbF (a4.setWidth 64) 4 ++ s4) (nbF (a5.setWidth 64) 4) s5 180 y4 l5 h5 (by decide)
  have y5 : ((((((nbF (a0.setWidth 64) 4 ++ s0) ++ nbF (a1.setWidth 64) 4 ++ s1) ++ nbF (a2.setWidth 64) 4 ++ s2) ++ nbF (a3.setWidth 64) 4 ++ s3) ++ nbF (a4.setWidth 64) 4 ++ s4) ++ nbF (a5.setWidth 64) 4 ++ s5).length = 216 := by rw [List.length_append, List.length_append, y4, l5, h5]
  have p6 := put32_ac a6
  have l6 := nbF_length (a6.setWidth 64) 4
  have c6 := concat3_ac ((((((nbF (a0.setWidth 64) 4 ++ s0) ++ nbF (a1.setWidth 64) 4 ++ s1) ++ nbF (a2.setWidth 64) 4 ++ s2) ++ nbF (a3.setWidth 64) 4 ++ s3) ++ nbF (a4.setWidth 64) 4 ++ s4) ++ nbF (a5.setWidth 64) 4 ++ s5) (nbF (a6.setWidth 64) 4) s6 216 y5 l6 h6 (by decide)
  have y6 : (((((((nbF (a0.setWidth 64) 4 ++ s0) ++ nbF (a1.setWidth 64) 4 ++ s1) ++ nbF (a2.setWidth 64) 4 ++ s2) ++ nbF (a3.setWidth 64) 4 ++ s3) ++ nbF (a4.setWidth 64) 4 ++ s4) ++ nbF (a5.setWidth 64) 4 ++ s5) ++ nbF (a6.setWidth 64) 4 ++ s6).length = 252 := by rw [List.length_append, List.length_append, y5, l6, h6]
  have p7 := put32_ac a7
  have l7 := nbF_length (a7.setWidth 64) 4
  have c7 := concat3_ac (((((((nbF (a0.setWidth 64) 4 ++ s0) ++ nbF (a1.setWidth 64) 4 ++ s1) ++ nbF (a2.setWidth 64) 4 ++ s2) ++ nbF (a3.setWidth 64) 4 ++ s3) ++ nbF (a4.setWidth 64) 4 ++ s4) ++ nbF (a5.setWidth 64) 4 ++ s5) ++ nbF (a6.setWidth 64) 4 ++ s6) (nbF (a7.setWidth 64) 4) s7 252 y6 l7 h7 (by decide)
  have y7 : ((((((((nbF (a0.setWidth 64) 4 ++ s0) ++ nbF (a1.setWidth 64) 4 ++ s1) ++ nbF (a2.setWidth 64) 4 ++ s2) ++ nbF (a3.setWidth 64) 4 ++ s3) ++ nbF (a4.setWidth 64) 4 ++ s4) ++ nbF (a5.setWidth 64) 4 ++ s5) ++ nbF (a6.setWidth 64) 4 ++ s6) ++ nbF (a7.setWidth 64) 4 ++ s7).length = 288 := by rw [List.length_append, List.length_append, y6, l7, h7]
  have eN : node8B a0 a1 a2 a3 a4 a5 a6 a7 s0 s1 s2 s3 s4 s5 s6 s7 = ((((((((nbF (a0.setWidth 64) 4 ++ s0) ++ nbF (a1.setWidth 64) 4 ++ s1) ++ nbF (a2.setWidth 64) 4 ++ s2) ++ nbF (a3.setWidth 64) 4 ++ s3) ++ nbF (a4.setWidth 64) 4 ++ s4) ++ nbF (a5.setWidth 64) 4 ++ s5) ++ nbF (a6.setWidth 64) 4 ++ s6) ++ nbF (a7.setWidth 64) 4 ++ s7) := by simp only [node8B, refB, u4B, List.append_assoc]
  rw [eN]; clear eN
  generalize (nbF (a0.setWidth 64) 4 ++ s0) = Y0 at *
  generalize (Y0 ++ nbF (a1.setWidth 64) 4 ++ s1) = Y1 at *
  generalize (Y1 ++ nbF (a2.setWidth 64) 4 ++ s2) = Y2 at *
  generalize (Y2 ++ nbF (a3.setWidth 64) 4 ++ s3) = Y3 at *
  generalize (Y3 ++ nbF (a4.setWidth 64) 4 ++ s4) = Y4 at *
  generalize (Y4 ++ nbF (a5.setWidth 64) 4 ++ s5) = Y5 at *
  generalize (Y5 ++ nbF (a6.setWidth 64) 4 ++ s6) = Y6 at *
  generalize (Y6 ++ nbF (a7.setWidth 64) 4 ++ s7) = Y7 at *
  generalize nbF (a0.setWidth 64) 4 = z0 at *
  generalize nbF (a1.setWidth 64) 4 = z1 at *
  generalize nbF (a2.setWidth 64) 4 = z2 at *
  generalize nbF (a3.setWidth 64) 4 = z3 at *
  generalize nbF (a4.setWidth 64) 4 = z4 at *
  generalize nbF (a5.setWidth 64) 4 = z5 at *
  generalize nbF (a6.setWidth 64) 4 = z6 at *
  generalize nbF (a7.setWidth 64) 4 = z7 at *
  refine acA tab mix Tryd.func78 ⟨[], [3]⟩ ?_
  repeat first | refine EffG.mk (obA ?_) | refine obA ?_ | refine chkA ?_ | refine brY ?_ | refine brN ?_
  refine unrG 9 ?_
  repeat first | refine EffG.mk (obA ?_) | refine obA ?_ | refine chkA ?_ | refine brY ?_ | refine brN ?_
  refine callA p0 [] ?_
  repeat first | refine EffG.mk (obA ?_) | refine obA ?_ | refine chkA ?_ | refine brY ?_ | refine brN ?_
  refine callA (c0.arrAt 2 32 [.fld 1] tRef (refD a0 s0)) [3, 2, 1] ?_
  repeat first | refine EffG.mk (obA ?_) | refine obA ?_ | refine chkA ?_ | refine brY ?_ | refine brN ?_
  refine callA p1 [] ?_
  repeat first | refine EffG.mk (obA ?_) | refine obA ?_ | refine chkA ?_ | refine brY ?_ | refine brN ?_
  refine callA (c1.arrAt 3 32 [.fld 1] tRef (refD a1 s1)) [7, 4, 6, 5] ?_
  repeat first | refine EffG.mk (obA ?_) | refine obA ?_ | refine chkA ?_ | refine brY ?_ | refine brN ?_
  refine callA p2 [] ?_
  repeat first | refine EffG.mk (obA ?_) | refine obA ?_ | refine chkA ?_ | refine brY ?_ | refine brN ?_
  refine callA (c2.arrAt 3 32 [.fld 1] tRef (refD a2 s2)) [11, 8, 10, 9] ?_
  repeat first | refine EffG.mk (obA ?_) | refine obA ?_ | refine chkA ?_ | refine brY ?_ | refine brN ?_
  refine callA p3 [] ?_
  repeat first | refine EffG.mk (obA ?_) | refine obA ?_ | refine chkA ?_ | refine brY ?_ | refine brN ?_
  refine callA (c3.arrAt 3 32 [.fld 1] tRef (refD a3 s3)) [15, 12, 14, 13] ?_
  repeat first | refine EffG.mk (obA ?_) | refine obA ?_ | refine chkA ?_ | refine brY ?_ | refine brN ?_
  refine callA p4 [] ?_
  repeat first | refine EffG.mk (obA ?_) | refine obA ?_ | refine chkA ?_ | refine brY ?_ | refine brN ?_
  refine callA (c4.arrAt 3 32 [.fld 1] tRef (refD a4 s4)) [19, 16, 18, 17] ?_
  repeat first | refine EffG.mk (obA ?_) | refine obA ?_ | refine chkA ?_ | refine brY ?_ | refine brN ?_
  refine callA p5 [] ?_
  repeat first | refine EffG.mk (obA ?_) | refine obA ?_ | refine chkA ?_ | refine brY ?_ | refine brN ?_
  refine callA (c5.arrAt 3 32 [.fld 1] tRef (refD a5 s5)) [23, 20, 22, 21] ?_
  repeat first | refine EffG.mk (obA ?_) | refine obA ?_ | refine chkA ?_ | refine brY ?_ | refine brN ?_
  refine callA p6 [] ?_
  repeat first | refine EffG.mk (obA ?_) | refine obA ?_ | refine chkA ?_ | refine brY ?_ | refine brN ?_
  refine callA (c6.arrAt 3 32 [.fld 1] tRef (refD a6 s6)) [27, 24, 26, 25] ?_
  repeat first | refine EffG.mk (obA ?_) | refine obA ?_ | refine chkA ?_ | refine brY ?_ | refine brN ?_
  refine callA p7 [] ?_
  repeat first | refine EffG.mk (obA ?_) | refine obA ?_ | refine chkA ?_ | refine brY ?_ | refine brN ?_
  refine callA (c7.arrAt 3 32 [.fld 1] tRef (refD a7 s7)) [31, 28, 30, 29] ?_
  repeat first | refine EffG.mk (obA ?_) | refine obA ?_ | refine chkA ?_ | refine brY ?_ | refine brN ?_
  refine retA [32]
end Go.Proofs.YtodkhgofmgaafaaDoor.Av

namespace Go.Proofs.YtodkhgofmgaafaaDoor.Av
open Go
set_option linter.all false
set_option maxRecDepth 3000

theorem node8B_length {a0 a1 a2 a3 a4 a5 a6 a7 : BitVec 32} {s0 s1 s2 s3 s4 s5 s6 s7 : List (BitVec 8)} (h0 : s0.length = 32) (h1 : s1.length = 32) (h2 : s2.length = 32) (h3 : s3.length = 32) (h4 : s4.length = 32) (h5 : s5.length = 32) (h6 : s6.length = 32) (h7 : s7.length = 32) : (node8B a0 a1 a2 a3 a4 a5 a6 a7 s0 s1 s2 s3 s4 s5 s6 s7).length = 288 := by
  simp only [node8B, List.length_append, refB_length h0, refB_length h1, refB_length h2, refB_length h3, refB_length h4, refB_length h5, refB_length h6, refB_length h7]
theorem sputnode_ac (c : Nat) (tag : List (BitVec 8)) (k1 k2 : List (List (BitVec 8))) (most N : Nat) (cap : Option Nat) (N2 : Nat) (cap2 : Option Nat) (ls : List Lo) (st : Nat) (S : List (BitVec 8)) (n : BitVec 32) (a0 a1 a2 a3 a4 a5 a6 a7 : BitVec 32) (s0 s1 s2 s3 s4 s5 s6 s7 : List (BitVec 8)) (h0 : s0.length = 32) (h1 : s1.length = 32) (h2 : s2.length = 32) (h3 : s3.length = 32) (h4 : s4.length = 32) (h5 : s5.length = 32) (h6 : s6.length = 32) (h7 : s7.length = 32)
    (hc : 1 ≤ c) (hc2 : c ≤ 64) (ht : tag.length = 32) (hls : ∀ x ∈ ls, x.bytes.length = 512) (hS : S.length = N) (hn : n.toNat ≤ 65535) (hq : 512 * (8 + n.toNat) + 512 ≤ N) (hN : N ≤ most) (hm : most ≤ 16777216) (hl : ls.length < 1000) (hst : st < 1000) :
    AC Tryd.prog 36 [.ptr 4 [], .u32 n, nodeD8 a0 a1 a2 a3 a4 a5 a6 a7 s0 s1 s2 s3 s4 s5 s6 s7] 8 (spM c tag k1 k2 most N cap N2 cap2 ls st S)
      ⟨.tup [refD (n + 1) (nodeF (pad512 (node8B a0 a1 a2 a3 a4 a5 a6 a7 s0 s1 s2 s3 s4 s5 s6 s7))), .i64 0], (looM 3 ls).map (fun p => (p.1, none)) ++ [(0, some (dvD most N cap N2 cap2 (.slice 8 [] 0 (ls.length + 1) none) (st + 1))), (1, some (.u8s (layF S (pad512 (node8B a0 a1 a2 a3 a4 a5 a6 a7 s0 s1 s2 s3 s4 s5 s6 s7)) (512 * (8 + n.toNat)))))],
       [(.row tLo, losD (ls ++ [loF (layF S (pad512 (node8B a0 a1 a2 a3 a4 a5 a6 a7 s0 s1 s2 s3 s4 s5 s6 s7)) (512 * (8 + n.toNat))) (8 + n.toNat)]))]⟩ := by
  have hpt := nput_ac a0 a1 a2 a3 a4 a5 a6 a7 s0 s1 s2 s3 s4 s5 s6 s7 h0 h1 h2 h3 h4 h5 h6 h7
  have hB := node8B_length (a0 := a0) (a1 := a1) (a2 := a2) (a3 := a3) (a4 := a4) (a5 := a5) (a6 := a6) (a7 := a7) h0 h1 h2 h3 h4 h5 h6 h7
  generalize node8B a0 a1 a2 a3 a4 a5 a6 a7 s0 s1 s2 s3 s4 s5 s6 s7 = B at hpt hB ⊢
  have hp := sput_ac' 44 nodeF nodeF_length node_f c tag k1 k2 most N cap N2 cap2 ls st S n B 0 288 none hc hc2 ht hls hS hn hq (by omega) (by decide) hN hm hl hst
  rw [List.drop_zero, List.take_of_length_le (by omega)] at hp
  have hy := nodeF_length (pad512 B)
  generalize pad512 B = Q at hp hy ⊢
  generalize nodeF Q = y at hp hy ⊢
  generalize layF S Q (512 * (8 + n.toNat)) = S' at hp ⊢
  refine acA tab mix Tryd.func36 {} ?_
  cases ls
  all_goals
    repeat first | refine EffG.mk (obA ?_) | refine obA ?_ | refine chkA ?_ | refine brY ?_ | refine brN ?_
    refine callA hpt [] ?_
    repeat first | refine EffG.mk (obA ?_) | refine obA ?_ | refine chkA ?_ | refine brY ?_ | refine brN ?_
    refine callA hp [0, 1, 2, 3, 4, 5, 6, 7, 10] ?_
    repeat first | refine EffG.mk (obA ?_) | refine obA ?_ | refine chkA ?_ | refine brY ?_ | refine brN ?_
    refine retA [0, 1, 2, 3, 4, 5, 6, 7, 11]
end Go.Proofs.YtodkhgofmgaafaaDoor.Av

namespace Go.Proofs.YtodkhgofmgaafaaDoor.Av
open Go
set_option linter.all false
set_option maxRecDepth 3000

/-! a page of nothing at all -/
end Go.Proofs.YtodkhgofmgaafaaDoor.Av

namespace Go.Proofs.YtodkhgofmgaafaaDoor.Av
open Go
set_option linter.all false
set_option maxRecDepth 3000

/-! a reader -/
abbrev rdM (bs : List (BitVec 8)) (o len : Nat) (cap : Option Nat) : Mem := [(0, some ⟨.row .cell, .u8s bs, false⟩), (1, some ⟨tRd, .node [.slice 0 [] o len cap, .i64 0], true⟩)]
abbrev rdN (o len n : Nat) (cap : Option Nat) : List (Nat × Option D) := [(1, some (.node [.slice 0 [] (o + n) (len - n) (cap.map (· - n)), .i64 0]))]

theorem rnext_ac (bs : List (BitVec 8)) (o n len : Nat) (cap : Option Nat) (h : n ≤ len) :
    AC Tryd.prog 108 [.ptr 1 [], .i64 n] 2 (rdM bs o len cap) ⟨.slice 0 [] o n (some n), rdN o len n cap, []⟩ := by
  refine acA tab mix Tryd.func108 {} ?_
  repeat first | refine EffG.mk (obA ?_) | refine obA ?_ | refine chkA ?_ | refine brY ?_ | refine brN ?_
  refine retA [0, 1]
theorem readr_ac (bs : List (BitVec 8)) (o len : Nat) (cap : Option Nat) :
    AC Tryd.prog 66 [.slice 0 [] o len cap] 1 [(0, some ⟨.row .cell, .u8s bs, false⟩)] ⟨.ptr 1 [], [], [(tRd, .node [.slice 0 [] o len cap, .i64 0])]⟩ := by
  refine acA tab mix Tryd.func66 {} ?_
  repeat first | refine EffG.mk (obA ?_) | refine obA ?_ | refine chkA ?_ | refine brY ?_ | refine brN ?_
  refine retA [0, 1]

theorem take_ac (bs : List (BitVec 8)) (o n len : Nat) (cap : Option Nat) (h : n ≤ len) (hb : o + len ≤ bs.length) (hk : n ≤ 70368744177664) :
    AC Tryd.prog 69 [.ptr 1 [], .i64 n] 2 (rdM bs o len cap) ⟨.slice 2 [] 0 n none, rdN o len n cap, [(.row .cell, .u8s ((bs.drop o).take n))]⟩ := by
  have hn := rnext_ac bs o n len cap h
  have hc := clone_ac bs o n (some n) (by omega) hk
  refine acA tab mix Tryd.func69 {} ?_
  repeat first | refine EffG.mk (obA ?_) | refine obA ?_ | refine chkA ?_ | refine brY ?_ | refine brN ?_
  refine callA hn [0, 1] ?_
  repeat first | refine EffG.mk (obA ?_) | refine obA ?_ | refine chkA ?_ | refine brY ?_ | refine brN ?_
  refine callA hc [0] ?_
  repeat first | refine EffG.mk (obA ?_) | refine obA ?_ | refine chkA ?_ | refine brY ?_ | refine brN ?_
  refine retA [0, 1, 2]
end Go.Proofs.YtodkhgofmgaafaaDoor.Av

namespace Go.Proofs.YtodkhgofmgaafaaDoor.Av
open Go
set_option linter.all false
set_option maxRecDepth 3000

/-! numbers of four bytes, read; what is left; the first error -/
def u4G (bs : List (BitVec 8)) (o : Nat) : BitVec 32 :=
  ((((((0 : BitVec 64) <<< (8 : Nat) ||| (bs.getD o 0).setWidth 64) <<< (8 : Nat) ||| (bs.getD (o + 1) 0).setWidth 64) <<< (8 : Nat) ||| (bs.getD (o + 1 + 1) 0).setWidth 64) <<< (8 : Nat) ||| (bs.getD (o + 1 + 1 + 1) 0).setWidth 64)).setWidth 32
theorem number4_ac (bs : List (BitVec 8)) (o len : Nat) (cap : Option Nat) (h : 4 ≤ len) (hb : o + len ≤ bs.length) :
    AC Tryd.prog 107 [.ptr 1 [], .i64 4] 2 (rdM bs o len cap) ⟨.u64 ((((((0 : BitVec 64) <<< (8 : Nat) ||| (bs.getD o 0).setWidth 64) <<< (8 : Nat) ||| (bs.getD (o + 1) 0).setWidth 64) <<< (8 : Nat) ||| (bs.getD (o + 1 + 1) 0).setWidth 64) <<< (8 : Nat) ||| (bs.getD (o + 1 + 1 + 1) 0).setWidth 64)), rdN o len 4 cap, []⟩ := by
  have hn := rnext_ac bs o 4 len cap h
  refine acA tab mix Tryd.func107 ⟨[], [4]⟩ ?_
  repeat first | refine EffG.mk (obA ?_) | refine obA ?_ | refine chkA ?_ | refine brY ?_ | refine brN ?_
  refine callA hn [0, 1] ?_
  repeat first | refine EffG.mk (obA ?_) | refine obA ?_ | refine chkA ?_ | refine brY ?_ | refine brN ?_
  refine unrG 5 ?_
  repeat first | refine EffG.mk (obA ?_) | refine obA ?_ | refine chkA ?_ | refine brY ?_ | refine brN ?_
  refine retA [0, 1]
theorem ru32_ac (bs : List (BitVec 8)) (o len : Nat) (cap : Option Nat) (h : 4 ≤ len) (hb : o + len ≤ bs.length) :
    AC Tryd.prog 119 [.ptr 1 []] 2 (rdM bs o len cap) ⟨.u32 (u4G bs o), rdN o len 4 cap, []⟩ := by
  have hn := number4_ac bs o len cap h hb
  unfold u4G
  generalize ((((((0 : BitVec 64) <<< (8 : Nat) ||| (bs.getD o 0).setWidth 64) <<< (8 : Nat) ||| (bs.getD (o + 1) 0).setWidth 64) <<< (8 : Nat) ||| (bs.getD (o + 1 + 1) 0).setWidth 64) <<< (8 : Nat) ||| (bs.getD (o + 1 + 1 + 1) 0).setWidth 64) : BitVec 64) = y at hn ⊢
  refine acA tab mix Tryd.func119 {} ?_
  repeat first | refine EffG.mk (obA ?_) | refine obA ?_ | refine chkA ?_ | refine brY ?_ | refine brN ?_
  refine callA hn [0, 1] ?_
  repeat first | refine EffG.mk (obA ?_) | refine obA ?_ | refine chkA ?_ | refine brY ?_ | refine brN ?_
  refine retA [0, 1]
theorem rleft_ac (bs : List (BitVec 8)) (o len : Nat) (cap : Option Nat) :
    AC Tryd.prog 121 [.ptr 1 []] 2 [(1, some ⟨tRd, .node [.slice 0 [] o len cap, .i64 0], false⟩)] ⟨.i64 len, [], []⟩ := by
  refine acA tab mix Tryd.func121 {} ?_
  repeat first | refine EffG.mk (obA ?_) | refine obA ?_ | refine chkA ?_ | refine brY ?_ | refine brN ?_
  refine retA [0, 1]
theorem rerr_ac (bs : List (BitVec 8)) (o len : Nat) (cap : Option Nat) :
    AC Tryd.prog 120 [.ptr 1 []] 2 [(1, some ⟨tRd, .node [.slice 0 [] o len cap, .i64 0], false⟩)] ⟨.i64 0, [], []⟩ := by
  refine acA tab mix Tryd.func120 {} ?_
  repeat first | refine EffG.mk (obA ?_) | refine obA ?_ | refine chkA ?_ | refine brY ?_ | refine brN ?_
  refine retA [0, 1]

/-! are all bytes nought? -/
theorem nought1_ac (c : BitVec 8) : AC Tryd.prog 123 [.u8 c] 0 [] ⟨.bool (!decide (c = 0)), [], []⟩ := by
  refine acA tab mix Tryd.func123 {} ?_
  repeat first | refine EffG.mk (obA ?_) | refine obA ?_ | refine chkA ?_ | refine brY ?_ | refine brN ?_
  refine retA []

theorem indexn_ac (bs : List (BitVec 8)) (o k : Nat) (cap : Option Nat) (hb : o + k ≤ bs.length) (hk : k < 4611686018427387904) (h : ∀ i, i < k → bs.getD (o + i) 0 = 0) :
    AC Tryd.prog 150 [.slice 0 [] o k cap, .fn 123 [] []] 1 [(0, some ⟨.row .cell, .u8s bs, false⟩)] ⟨.i64 (-1), [], []⟩ := by
  refine acA tab mix Tryd.func150 {} ?_
  repeat first | refine EffG.mk (obA ?_) | refine obA ?_ | refine chkA ?_
  refine loopG Nat (fun i => [(0, .slice 0 [] o k cap), (1, .fn 123 [] []), (7, .i64 k), (8, .i64 i)]) (fun i => [(0, some ⟨.row .cell, .u8s bs, false⟩)]) 1
    (fun i => i ≤ k) (fun i => k - i) 0 [0] (Nat.zero_le _) viewA ?_
  intro i hi
  repeat first | refine EffG.mk (obA ?_) | refine obA ?_ | refine chkA ?_
  refine Br.split (fun hh => ?_) (fun hh => ?_)
  · have hi : i < k := by have := of_decide_eq_true hh; omega
    have hf := nought1_ac (bs.getD (o + i) 0)
    rw [decide_eq_true (h i hi)] at hf
    repeat first | refine EffG.mk (obA ?_) | refine obA ?_ | refine chkA ?_
    refine callA hf [] ?_
    repeat first | refine EffG.mk (obA ?_) | refine obA ?_ | refine chkA ?_ | refine brY ?_ | refine brN ?_
    refine nextA (i + 1) [0] viewA
  · repeat first | refine EffG.mk (obA ?_) | refine obA ?_ | refine chkA ?_
    refine retA [0]
theorem indexs_ac (bs : List (BitVec 8)) (o k j : Nat) (cap : Option Nat) (hb : o + k ≤ bs.length) (hk : k < 4611686018427387904) (hj : j < k) (h : ∀ i, i < j → bs.getD (o + i) 0 = 0) (hn : ¬ bs.getD (o + j) 0 = 0) :
    AC Tryd.prog 150 [.slice 0 [] o k cap, .fn 123 [] []] 1 [(0, some ⟨.row .cell, .u8s bs, false⟩)] ⟨.i64 j, [], []⟩ := by
  refine acA tab mix Tryd.func150 {} ?_
  repeat first | refine EffG.mk (obA ?_) | refine obA ?_ | refine chkA ?_
  refine loopG Nat (fun i => [(0, .slice 0 [] o k cap), (1, .fn 123 [] []), (7, .i64 k), (8, .i64 i)]) (fun i => [(0, some ⟨.row .cell, .u8s bs, false⟩)]) 1
    (fun i => i ≤ j) (fun i => k - i) 0 [0] (Nat.zero_le _) viewA ?_
  intro i hi
  repeat first | refine EffG.mk (obA ?_) | refine obA ?_ | refine chkA ?_
  refine brY ?_ (h := decide_eq_true (show (i : Int) < (k : Int) by omega))
  have hf := nought1_ac (bs.getD (o + i) 0)
  by_cases he : i = j
  · subst he
    rw [decide_eq_false hn] at hf
    repeat first | refine EffG.mk (obA ?_) | refine obA ?_ | refine chkA ?_
    refine callA hf [] ?_
    repeat first | refine EffG.mk (obA ?_) | refine obA ?_ | refine chkA ?_ | refine brY ?_ | refine brN ?_
    refine retA [0]
  · rw [decide_eq_true (h i (by omega))] at hf
    repeat first | refine EffG.mk (obA ?_) | refine obA ?_ | refine chkA ?_
    refine callA hf [] ?_
    repeat first | refine EffG.mk (obA ?_) | refine obA ?_ | refine chkA ?_ | refine brY ?_ | refine brN ?_
    refine nextA (i + 1) [0] viewA

/-- is a piece of bytes all noughts? -/
def noughtB (bs : List (BitVec 8)) (o k : Nat) : Bool := ((bs.drop o).take k).all fun c => decide (c = 0)
theorem noughtB_iff {bs : List (BitVec 8)} {o k : Nat} (hb : o + k ≤ bs.length) : noughtB bs o k = true ↔ ∀ i, i < k → bs.getD (o + i) 0 = 0 := by
  unfold noughtB
  rw [List.all_eq_true]
  constructor
  · intro h i hi
    have : bs.getD (o + i) 0 ∈ (bs.drop o).take k := by
      have e : ((bs.drop o).take k)[i]? = some (bs.getD (o + i) 0) := by
        rw [List.getElem?_take, if_pos hi, List.getElem?_drop, List.getD_eq_getElem?_getD, List.getElem?_eq_getElem (by omega)]; rfl
      exact List.mem_of_getElem? e
    exact of_decide_eq_true (h _ this)
  · intro h c hc
    obtain ⟨i, hi⟩ := List.mem_iff_getElem?.1 hc
    have hlt : i < ((bs.drop o).take k).length := (List.getElem?_eq_some_iff.1 hi).1
    rw [List.length_take, List.length_drop] at hlt
    have hik : i < k := by omega
    rw [List.getElem?_take, if_pos hik, List.getElem?_drop] at hi
    have e := h i hik
    rw [List.getD_eq_getElem?_getD, hi] at e
    exact decide_eq_true e
theorem first_of : ∀ (k : Nat) (f : Nat → Prop) [DecidablePred f], ¬ (∀ i, i < k → f i) → ∃ j, j < k ∧ (∀ i, i < j → f i) ∧ ¬ f j
  | 0, _, _, h => absurd (fun _ h => absurd h (Nat.not_lt_zero _)) h
  | k + 1, f, _, h => by
    by_cases hk : ∀ i, i < k → f i
    · exact ⟨k, Nat.lt_succ_self k, hk, fun hf => h fun i hi => by
        rcases Nat.lt_or_eq_of_le (Nat.le_of_lt_succ hi) with h' | h'
        · exact hk i h'
        · exact h' ▸ hf⟩
    · obtain ⟨j, h1, h2, h3⟩ := first_of k f hk
      exact ⟨j, Nat.lt_succ_of_lt h1, h2, h3⟩
theorem containsn_ac (bs : List (BitVec 8)) (o k : Nat) (cap : Option Nat) (hb : o + k ≤ bs.length) (hk : k < 4611686018427387904) :
    AC Tryd.prog 122 [.slice 0 [] o k cap, .fn 123 [] []] 1 [(0, some ⟨.row .cell, .u8s bs, false⟩)] ⟨.bool (!noughtB bs o k), [], []⟩ := by
  by_cases h : ∀ i, i < k → bs.getD (o + i) 0 = 0
  · rw [(noughtB_iff hb).2 h]
    have hi := indexn_ac bs o k cap hb hk h
    refine acA tab mix Tryd.func122 {} ?_
    repeat first | refine EffG.mk (obA ?_) | refine obA ?_ | refine chkA ?_ | refine brY ?_ | refine brN ?_
    refine callA hi [0] ?_
    repeat first | refine EffG.mk (obA ?_) | refine obA ?_ | refine chkA ?_ | refine brY ?_ | refine brN ?_
    refine retA [0]
  · have e : noughtB bs o k = false := by
      cases hz : noughtB bs o k with
      | false => rfl
      | true => exact absurd ((noughtB_iff hb).1 hz) h
    rw [e]
    obtain ⟨j, h1, h2, h3⟩ := first_of k (fun i => bs.getD (o + i) 0 = 0) h
    have hi := indexs_ac bs o k j cap hb hk h1 h2 h3
    refine acA tab mix Tryd.func122 {} ?_
    repeat first | refine EffG.mk (obA ?_) | refine obA ?_ | refine chkA ?_ | refine brY ?_ | refine brN ?_
    refine callA hi [0] ?_
    repeat first | refine EffG.mk (obA ?_) | refine obA ?_ | refine chkA ?_ | refine brY ?_ | refine brN ?_
    refine retA [0] (h1 := ?_)
    show retIs (.bool (decide ((j : Int) ≥ 0))) [.bool true]
    rw [decide_eq_true (Int.natCast_nonneg j)]; rfl
theorem nought_ac (bs : List (BitVec 8)) (o k : Nat) (cap : Option Nat) (hb : o + k ≤ bs.length) (hk : k < 4611686018427387904) :
    AC Tryd.prog 86 [.slice 0 [] o k cap] 1 [(0, some ⟨.row .cell, .u8s bs, false⟩)] ⟨.bool (noughtB bs o k), [], []⟩ := by
  have hc := containsn_ac bs o k cap hb hk
  generalize noughtB bs o k = y at hc ⊢
  refine acA tab mix Tryd.func86 {} ?_
  repeat first | refine EffG.mk (obA ?_) | refine obA ?_ | refine chkA ?_ | refine brY ?_ | refine brN ?_
  refine callA hc [0] ?_
  repeat first | refine EffG.mk (obA ?_) | refine obA ?_ | refine chkA ?_ | refine brY ?_ | refine brN ?_
  refine retA [0] (h1 := ?_)
  cases y <;> rfl
end Go.Proofs.YtodkhgofmgaafaaDoor.Av
