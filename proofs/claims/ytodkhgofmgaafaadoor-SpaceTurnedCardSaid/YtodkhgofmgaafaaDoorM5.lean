import Derived.Test.YtodkhgofmgaafaaDoorM4
import Derived.RangeFuncBox
import Derived.RangeFuncLeaves
import Derived.Shelf.Abstract
import Derived.WalkKit
import Derived.OwnWalkIn
import Derived.TacticsInMore
import Derived.LoopNIn
import Derived.LoopIn
namespace Go.Proofs.YtodkhgofmgaafaaDoor.Av
open Go
set_option linter.all false
set_option maxRecDepth 3000

abbrev keysD (ks : List (List (BitVec 8))) : D := .node [.node (ks.map .u8s)]
abbrev tC : Ty := .st [t15]

theorem ren_keysD (s : Nat → Nat) (ks : List (List (BitVec 8))) : (keysD ks).ren s = keysD ks := congrArg (fun l => D.node [D.node l]) (rens_u8s s ks)
theorem ren_keysR (s : Nat → Nat) (ks : List (List (BitVec 8))) : (D.node (ks.map .u8s)).ren s = .node (ks.map .u8s) := congrArg D.node (rens_u8s s ks)
theorem schedF_length (key : List (BitVec 8)) : (schedF key).length = 15 := outK_length _ _
theorem schedF_lens (key : List (BitVec 8)) (hk : key.length = 32) : ∀ k ∈ schedF key, k.length = 16 := outK_lens _ (schedI_length key hk 52) 15 (Nat.le_refl _)

theorem new_ac (key : List (BitVec 8)) (hk : key.length = 32) : AC Tryd.prog 110 [.u8s key] 0 [] ⟨.ptr 0 [], [], [(tC, keysD (schedF key))]⟩ := by
  have hs := schedule_ac key hk
  have h1 := schedF_length key
  have h2 := schedF_lens key hk
  generalize schedF key = ks at hs h1 h2 ⊢
  refine ac_of tab mix Tryd.func110 rfl (by kernel_rfl) (by kernel_rfl) (by kernel_rfl) {} ?_
  repeat first | (refine EffG.mk (And.intro ?_ ?_); focus ((repeat' (first | exact trivial | refine And.intro ?_ ?_)) <;> (first | omega | (simp only [hasTy, okP, lenD, D.ren, D.isCell, Option.getD, List.length_set, List.length_take, List.length_drop, List.length_append, List.length_replicate, List.length_map, List.length_cons, List.length_nil, Option.map] <;> omega) | with_reducible assumption | with_reducible rfl | decide); done)) | (refine And.intro ?_ ?_; focus ((repeat' (first | exact trivial | refine And.intro ?_ ?_)) <;> (first | omega | (simp only [hasTy, okP, lenD, D.ren, D.isCell, Option.getD, List.length_set, List.length_take, List.length_drop, List.length_append, List.length_replicate, List.length_map, List.length_cons, List.length_nil, Option.map] <;> omega) | with_reducible assumption | with_reducible rfl | decide); done)) | refine chkG (by kernel_rfl) ?_
  refine callR hs [] (.node (ks.map .u8s)) [] rfl rfl trivial rfl rfl (ren_keysR _ ks) rfl ?_
  repeat first | (refine EffG.mk (And.intro ?_ ?_); focus ((repeat' (first | exact trivial | refine And.intro ?_ ?_)) <;> (first | omega | (simp only [hasTy, okP, lenD, D.ren, D.isCell, Option.getD, List.length_set, List.length_take, List.length_drop, List.length_append, List.length_replicate, List.length_map, List.length_cons, List.length_nil, Option.map] <;> omega) | with_reducible assumption | with_reducible rfl | decide); done)) | (refine And.intro ?_ ?_; focus ((repeat' (first | exact trivial | refine And.intro ?_ ?_)) <;> (first | omega | (simp only [hasTy, okP, lenD, D.ren, D.isCell, Option.getD, List.length_set, List.length_take, List.length_drop, List.length_append, List.length_replicate, List.length_map, List.length_cons, List.length_nil, Option.map] <;> omega) | with_reducible assumption | with_reducible rfl | decide); done)) | refine chkG (by kernel_rfl) ?_
  refine EffG.mk (And.intro ⟨⟨?_, keysTy h1 h2⟩, trivial⟩ ?_)
  · exact trivial
  repeat first | (refine EffG.mk (And.intro ?_ ?_); focus ((repeat' (first | exact trivial | refine And.intro ?_ ?_)) <;> (first | omega | (simp only [hasTy, okP, lenD, D.ren, D.isCell, Option.getD, List.length_set, List.length_take, List.length_drop, List.length_append, List.length_replicate, List.length_map, List.length_cons, List.length_nil, Option.map] <;> omega) | with_reducible assumption | with_reducible rfl | decide); done)) | (refine And.intro ?_ ?_; focus ((repeat' (first | exact trivial | refine And.intro ?_ ?_)) <;> (first | omega | (simp only [hasTy, okP, lenD, D.ren, D.isCell, Option.getD, List.length_set, List.length_take, List.length_drop, List.length_append, List.length_replicate, List.length_map, List.length_cons, List.length_nil, Option.map] <;> omega) | with_reducible assumption | with_reducible rfl | decide); done)) | refine chkG (by kernel_rfl) ?_
  refine EffG.mk (And.intro ⟨keysTy h1 h2, trivial⟩ ?_)
  repeat first | (refine EffG.mk (And.intro ?_ ?_); focus ((repeat' (first | exact trivial | refine And.intro ?_ ?_)) <;> (first | omega | (simp only [hasTy, okP, lenD, D.ren, D.isCell, Option.getD, List.length_set, List.length_take, List.length_drop, List.length_append, List.length_replicate, List.length_map, List.length_cons, List.length_nil, Option.map] <;> omega) | with_reducible assumption | with_reducible rfl | decide); done)) | (refine And.intro ?_ ?_; focus ((repeat' (first | exact trivial | refine And.intro ?_ ?_)) <;> (first | omega | (simp only [hasTy, okP, lenD, D.ren, D.isCell, Option.getD, List.length_set, List.length_take, List.length_drop, List.length_append, List.length_replicate, List.length_map, List.length_cons, List.length_nil, Option.map] <;> omega) | with_reducible assumption | with_reducible rfl | decide); done)) | refine chkG (by kernel_rfl) ?_
  refine retG [1] rfl rfl ⟨⟨_, rfl, rfl, (ren_keysD _ ks).symm, id⟩, trivial⟩ rfl

def subI (s : List (BitVec 8)) : Nat → List (BitVec 8)
  | 0 => List.replicate 16 0
  | i + 1 => (subI s i).set i (sboxF (s.getD ((i + 4 * (i % 4)) % 16) 0))
theorem subI_length (s : List (BitVec 8)) : ∀ i, (subI s i).length = 16
  | 0 => rfl
  | i + 1 => by rw [subI, List.length_set, subI_length s i]
def encI (ks : List (List (BitVec 8))) (b : List (BitVec 8)) : Nat → List (BitVec 8)
  | 0 => xorF b (ks.getD 0 [])
  | n + 1 => xorF (if n + 1 < 14 then mixF (subI (encI ks b n) 16) else subI (encI ks b n) 16) (ks.getD (n + 1) [])
theorem xorF_length (s k : List (BitVec 8)) : (xorF s k).length = s.length := xorI_length s k 16
theorem mixF_length (s : List (BitVec 8)) : (mixF s).length = s.length := mixI_length s 4
theorem encI_length (ks : List (List (BitVec 8))) (b : List (BitVec 8)) (hb : b.length = 16) : ∀ n, (encI ks b n).length = 16
  | 0 => by rw [encI, xorF_length, hb]
  | n + 1 => by
    rw [encI, xorF_length]
    split
    · rw [mixF_length, subI_length]
    · rw [subI_length]

theorem encrypt_ac (ks : List (List (BitVec 8))) (b : List (BitVec 8)) (hb : b.length = 16) (h1 : ks.length = 15) (h2 : ∀ k ∈ ks, k.length = 16) :
    AC Tryd.prog 115 [.ptr 0 [], .u8s b] 1 [(0, some ⟨tC, keysD ks, true⟩)] ⟨.u8s (encI ks b 14), [], []⟩ := by
  have hm : (ks.map D.u8s).length = 15 := by rw [List.length_map, h1]
  have hk : ∀ i, i < 15 → (ks.getD i []).length = 16 := fun i hi => h2 _ (getD_mem (by omega))
  refine ac_of tab mix Tryd.func115 rfl (by kernel_rfl) (by kernel_rfl) (by kernel_rfl) ⟨[15], []⟩ ?_
  have hx := xorF_length b (ks.getD 0 [])
  rw [hb] at hx
  repeat first | (refine EffG.mk (And.intro ?_ ?_); focus ((repeat' (first | exact trivial | refine And.intro ?_ ?_)) <;> (first | omega | (simp only [hasTy, okP, lenD, D.ren, D.isCell, Option.getD, List.length_set, List.length_take, List.length_drop, List.length_append, List.length_replicate, List.length_map, List.length_cons, List.length_nil, Option.map] <;> omega) | with_reducible assumption | with_reducible rfl | decide); done)) | (refine And.intro ?_ ?_; focus ((repeat' (first | exact trivial | refine And.intro ?_ ?_)) <;> (first | omega | (simp only [hasTy, okP, lenD, D.ren, D.isCell, Option.getD, List.length_set, List.length_take, List.length_drop, List.length_append, List.length_replicate, List.length_map, List.length_cons, List.length_nil, Option.map] <;> omega) | with_reducible assumption | with_reducible rfl | decide); done)) | refine chkG (by kernel_rfl) ?_
  refine Br.no rfl ?_
  repeat first | (rw [nthD_u8s (l := ks)]; rotate_left; omega) | (refine EffG.mk (And.intro ?_ ?_); focus ((repeat' (first | exact trivial | refine And.intro ?_ ?_)) <;> (first | omega | (simp only [hasTy, okP, lenD, D.ren, D.isCell, Option.getD, List.length_set, List.length_take, List.length_drop, List.length_append, List.length_replicate, List.length_map, List.length_cons, List.length_nil, Option.map] <;> omega) | with_reducible assumption | with_reducible rfl | decide); done)) | (refine And.intro ?_ ?_; focus ((repeat' (first | exact trivial | refine And.intro ?_ ?_)) <;> (first | omega | (simp only [hasTy, okP, lenD, D.ren, D.isCell, Option.getD, List.length_set, List.length_take, List.length_drop, List.length_append, List.length_replicate, List.length_map, List.length_cons, List.length_nil, Option.map] <;> omega) | with_reducible assumption | with_reducible rfl | decide); done)) | refine chkG (by kernel_rfl) ?_
  refine callG (xor_ac b (ks.getD 0 []) hb (hk 0 (by omega))) [] rfl rfl trivial rfl rfl ?_
  repeat first | (refine EffG.mk (And.intro ?_ ?_); focus ((repeat' (first | exact trivial | refine And.intro ?_ ?_)) <;> (first | omega | (simp only [hasTy, okP, lenD, D.ren, D.isCell, Option.getD, List.length_set, List.length_take, List.length_drop, List.length_append, List.length_replicate, List.length_map, List.length_cons, List.length_nil, Option.map] <;> omega) | with_reducible assumption | with_reducible rfl | decide); done)) | (refine And.intro ?_ ?_; focus ((repeat' (first | exact trivial | refine And.intro ?_ ?_)) <;> (first | omega | (simp only [hasTy, okP, lenD, D.ren, D.isCell, Option.getD, List.length_set, List.length_take, List.length_drop, List.length_append, List.length_replicate, List.length_map, List.length_cons, List.length_nil, Option.map] <;> omega) | with_reducible assumption | with_reducible rfl | decide); done)) | refine chkG (by kernel_rfl) ?_
  refine loopG Nat (fun k => [(0, .ptr 0 []), (4, .ptr 2 []), (5, .ptr 3 []), (6, .i64 (k + 1 : Nat))])
    (fun k => [(0, some ⟨tC, keysD ks, true⟩), (2, some ⟨t16, .u8s (List.replicate 16 0), true⟩), (3, some ⟨t16, .u8s (encI ks b k), true⟩)]) 4 (fun k => k ≤ 14) (fun k => 14 - k) 0 [0, 1, 2, 3] (Nat.zero_le _) ?_ ?_
  · exact viewG rfl ⟨rfl, rfl, rfl, rfl, trivial⟩ ⟨⟨_, rfl, rfl, (ren_keysD _ ks).symm, id⟩, ⟨_, rfl, rfl, rfl, id⟩, ⟨_, rfl, rfl, rfl, id⟩, trivial⟩ rfl
  intro k hk14
  have hl := encI_length ks b hb k
  repeat first | (refine EffG.mk (And.intro ?_ ?_); focus ((repeat' (first | exact trivial | refine And.intro ?_ ?_)) <;> (first | omega | (simp only [hasTy, okP, lenD, D.ren, D.isCell, Option.getD, List.length_set, List.length_take, List.length_drop, List.length_append, List.length_replicate, List.length_map, List.length_cons, List.length_nil, Option.map] <;> omega) | with_reducible assumption | with_reducible rfl | decide); done)) | (refine And.intro ?_ ?_; focus ((repeat' (first | exact trivial | refine And.intro ?_ ?_)) <;> (first | omega | (simp only [hasTy, okP, lenD, D.ren, D.isCell, Option.getD, List.length_set, List.length_take, List.length_drop, List.length_append, List.length_replicate, List.length_map, List.length_cons, List.length_nil, Option.map] <;> omega) | with_reducible assumption | with_reducible rfl | decide); done)) | refine chkG (by kernel_rfl) ?_
  refine Br.split (fun h => ?_) (fun h => ?_)
  · have hk14 : k < 14 := by have := of_decide_eq_true h; omega
    repeat first | (refine EffG.mk (And.intro ?_ ?_); focus ((repeat' (first | exact trivial | refine And.intro ?_ ?_)) <;> (first | omega | (simp only [hasTy, okP, lenD, D.ren, D.isCell, Option.getD, List.length_set, List.length_take, List.length_drop, List.length_append, List.length_replicate, List.length_map, List.length_cons, List.length_nil, Option.map] <;> omega) | with_reducible assumption | with_reducible rfl | decide); done)) | (refine And.intro ?_ ?_; focus ((repeat' (first | exact trivial | refine And.intro ?_ ?_)) <;> (first | omega | (simp only [hasTy, okP, lenD, D.ren, D.isCell, Option.getD, List.length_set, List.length_take, List.length_drop, List.length_append, List.length_replicate, List.length_map, List.length_cons, List.length_nil, Option.map] <;> omega) | with_reducible assumption | with_reducible rfl | decide); done)) | refine chkG (by kernel_rfl) ?_
    refine loopG Nat (fun i => [(0, .ptr 0 []), (4, .ptr 2 []), (5, .ptr 3 []), (6, .i64 (k + 1 : Nat)), (7, .ptr 4 []), (23, .i64 i)])
      (fun i => [(0, some ⟨tC, keysD ks, true⟩), (2, some ⟨t16, .u8s (List.replicate 16 0), true⟩), (3, some ⟨t16, .u8s (encI ks b k), true⟩), (4, some ⟨t16, .u8s (subI (encI ks b k) i), true⟩)]) 5 (fun i => i ≤ 16) (fun i => 16 - i) 0 [0, 1, 2, 3, 4] (Nat.zero_le _) ?_ ?_
    · exact viewG rfl ⟨rfl, rfl, rfl, rfl, rfl, rfl, trivial⟩ ⟨⟨_, rfl, rfl, (ren_keysD _ ks).symm, id⟩, ⟨_, rfl, rfl, rfl, id⟩, ⟨_, rfl, rfl, rfl, id⟩, ⟨_, rfl, rfl, rfl, id⟩, trivial⟩ rfl
    intro i hi
    have hs := subI_length (encI ks b k) i
    repeat first | (refine EffG.mk (And.intro ?_ ?_); focus ((repeat' (first | exact trivial | refine And.intro ?_ ?_)) <;> (first | omega | (simp only [hasTy, okP, lenD, D.ren, D.isCell, Option.getD, List.length_set, List.length_take, List.length_drop, List.length_append, List.length_replicate, List.length_map, List.length_cons, List.length_nil, Option.map] <;> omega) | with_reducible assumption | with_reducible rfl | decide); done)) | (refine And.intro ?_ ?_; focus ((repeat' (first | exact trivial | refine And.intro ?_ ?_)) <;> (first | omega | (simp only [hasTy, okP, lenD, D.ren, D.isCell, Option.getD, List.length_set, List.length_take, List.length_drop, List.length_append, List.length_replicate, List.length_map, List.length_cons, List.length_nil, Option.map] <;> omega) | with_reducible assumption | with_reducible rfl | decide); done)) | refine chkG (by kernel_rfl) ?_
    refine Br.split (fun h => ?_) (fun h => ?_)
    · have hi : i < 16 := by have := of_decide_eq_true h; omega
      repeat first | (refine EffG.mk (And.intro ?_ ?_); focus ((repeat' (first | exact trivial | refine And.intro ?_ ?_)) <;> (first | omega | (simp only [hasTy, okP, lenD, D.ren, D.isCell, Option.getD, List.length_set, List.length_take, List.length_drop, List.length_append, List.length_replicate, List.length_map, List.length_cons, List.length_nil, Option.map] <;> omega) | with_reducible assumption | with_reducible rfl | decide); done)) | (refine And.intro ?_ ?_; focus ((repeat' (first | exact trivial | refine And.intro ?_ ?_)) <;> (first | omega | (simp only [hasTy, okP, lenD, D.ren, D.isCell, Option.getD, List.length_set, List.length_take, List.length_drop, List.length_append, List.length_replicate, List.length_map, List.length_cons, List.length_nil, Option.map] <;> omega) | with_reducible assumption | with_reducible rfl | decide); done)) | refine chkG (by kernel_rfl) ?_
      refine callG box_ac [] rfl rfl trivial rfl rfl ?_
      have e1 : Int.tmod (i : Int) 4 = ((i % 4 : Nat) : Int) := (Int.ofNat_tmod i 4).symm
      have e2 : Int.tmod ((i : Int) + 4 * ((i % 4 : Nat) : Int)) 16 = (((i + 4 * (i % 4)) % 16 : Nat) : Int) := Int.ofNat_tmod (i + 4 * (i % 4)) 16
      repeat first | rw [e1] | rw [e2] | refine EffG.mk (And.intro (byte_ix _ boxL boxL_length) ?_) | (refine EffG.mk (And.intro ?_ ?_); focus ((repeat' (first | exact trivial | refine And.intro ?_ ?_)) <;> (first | omega | (simp only [hasTy, okP, lenD, D.ren, D.isCell, Option.getD, List.length_set, List.length_take, List.length_drop, List.length_append, List.length_replicate, List.length_map, List.length_cons, List.length_nil, Option.map] <;> omega) | with_reducible assumption | with_reducible rfl | decide); done)) | (refine And.intro ?_ ?_; focus ((repeat' (first | exact trivial | refine And.intro ?_ ?_)) <;> (first | omega | (simp only [hasTy, okP, lenD, D.ren, D.isCell, Option.getD, List.length_set, List.length_take, List.length_drop, List.length_append, List.length_replicate, List.length_map, List.length_cons, List.length_nil, Option.map] <;> omega) | with_reducible assumption | with_reducible rfl | decide); done)) | refine chkG (by kernel_rfl) ?_
      refine nextG (i + 1) [0, 1, 2, 3, 4] ?_ ?_ ?_
      · omega
      · omega
      · exact viewG rfl ⟨rfl, rfl, rfl, rfl, rfl, rfl, trivial⟩ ⟨⟨_, rfl, rfl, (ren_keysD _ ks).symm, id⟩, ⟨_, rfl, rfl, rfl, id⟩, ⟨_, rfl, rfl, rfl, id⟩, ⟨_, rfl, rfl, rfl, id⟩, trivial⟩ rfl
    · have hi : i = 16 := by have := of_decide_eq_false h; omega
      subst hi
      repeat first | (refine EffG.mk (And.intro ?_ ?_); focus ((repeat' (first | exact trivial | refine And.intro ?_ ?_)) <;> (first | omega | (simp only [hasTy, okP, lenD, D.ren, D.isCell, Option.getD, List.length_set, List.length_take, List.length_drop, List.length_append, List.length_replicate, List.length_map, List.length_cons, List.length_nil, Option.map] <;> omega) | with_reducible assumption | with_reducible rfl | decide); done)) | (refine And.intro ?_ ?_; focus ((repeat' (first | exact trivial | refine And.intro ?_ ?_)) <;> (first | omega | (simp only [hasTy, okP, lenD, D.ren, D.isCell, Option.getD, List.length_set, List.length_take, List.length_drop, List.length_append, List.length_replicate, List.length_map, List.length_cons, List.length_nil, Option.map] <;> omega) | with_reducible assumption | with_reducible rfl | decide); done)) | refine chkG (by kernel_rfl) ?_
      have hmx := mixF_length (subI (encI ks b k) 16)
      rw [hs] at hmx
      refine joinG Unit (fun _ => [(0, .ptr 0 []), (4, .ptr 2 []), (5, .ptr 3 []), (6, .i64 (k + 1 : Nat)), (7, .ptr 4 [])])
        (fun _ => [(0, some ⟨tC, keysD ks, true⟩), (2, some ⟨t16, .u8s (List.replicate 16 0), true⟩), (3, some ⟨t16, .u8s (encI ks b k), true⟩), (4, some ⟨t16, .u8s (if k + 1 < 14 then mixF (subI (encI ks b k) 16) else subI (encI ks b k) 16), true⟩)]) 5 (fun _ => True) ?_ ?_
      · repeat first | (refine EffG.mk (And.intro ?_ ?_); focus ((repeat' (first | exact trivial | refine And.intro ?_ ?_)) <;> (first | omega | (simp only [hasTy, okP, lenD, D.ren, D.isCell, Option.getD, List.length_set, List.length_take, List.length_drop, List.length_append, List.length_replicate, List.length_map, List.length_cons, List.length_nil, Option.map] <;> omega) | with_reducible assumption | with_reducible rfl | decide); done)) | (refine And.intro ?_ ?_; focus ((repeat' (first | exact trivial | refine And.intro ?_ ?_)) <;> (first | omega | (simp only [hasTy, okP, lenD, D.ren, D.isCell, Option.getD, List.length_set, List.length_take, List.length_drop, List.length_append, List.length_replicate, List.length_map, List.length_cons, List.length_nil, Option.map] <;> omega) | with_reducible assumption | with_reducible rfl | decide); done)) | refine chkG (by kernel_rfl) ?_
        refine Br.split (fun h => ?_) (fun h => ?_)
        · have h : k + 1 < 14 := by have := of_decide_eq_true h; omega
          repeat first | (refine EffG.mk (And.intro ?_ ?_); focus ((repeat' (first | exact trivial | refine And.intro ?_ ?_)) <;> (first | omega | (simp only [hasTy, okP, lenD, D.ren, D.isCell, Option.getD, List.length_set, List.length_take, List.length_drop, List.length_append, List.length_replicate, List.length_map, List.length_cons, List.length_nil, Option.map] <;> omega) | with_reducible assumption | with_reducible rfl | decide); done)) | (refine And.intro ?_ ?_; focus ((repeat' (first | exact trivial | refine And.intro ?_ ?_)) <;> (first | omega | (simp only [hasTy, okP, lenD, D.ren, D.isCell, Option.getD, List.length_set, List.length_take, List.length_drop, List.length_append, List.length_replicate, List.length_map, List.length_cons, List.length_nil, Option.map] <;> omega) | with_reducible assumption | with_reducible rfl | decide); done)) | refine chkG (by kernel_rfl) ?_
          refine callG (mixed_ac _ hs) [] rfl rfl trivial rfl rfl ?_
          repeat first | (refine EffG.mk (And.intro ?_ ?_); focus ((repeat' (first | exact trivial | refine And.intro ?_ ?_)) <;> (first | omega | (simp only [hasTy, okP, lenD, D.ren, D.isCell, Option.getD, List.length_set, List.length_take, List.length_drop, List.length_append, List.length_replicate, List.length_map, List.length_cons, List.length_nil, Option.map] <;> omega) | with_reducible assumption | with_reducible rfl | decide); done)) | (refine And.intro ?_ ?_; focus ((repeat' (first | exact trivial | refine And.intro ?_ ?_)) <;> (first | omega | (simp only [hasTy, okP, lenD, D.ren, D.isCell, Option.getD, List.length_set, List.length_take, List.length_drop, List.length_append, List.length_replicate, List.length_map, List.length_cons, List.length_nil, Option.map] <;> omega) | with_reducible assumption | with_reducible rfl | decide); done)) | refine chkG (by kernel_rfl) ?_
          refine meetG () [0, 1, 2, 3, 4] trivial ?_
          exact viewG rfl ⟨rfl, rfl, rfl, rfl, rfl, trivial⟩ ⟨⟨_, rfl, rfl, (ren_keysD _ ks).symm, id⟩, ⟨_, rfl, rfl, rfl, id⟩, ⟨_, rfl, rfl, rfl, id⟩, ⟨_, rfl, rfl, congrArg D.u8s (if_pos h).symm, id⟩, trivial⟩ rfl
        · have h : ¬ k + 1 < 14 := by have := of_decide_eq_false h; omega
          refine meetG () [0, 1, 2, 3, 4] trivial ?_
          exact viewG rfl ⟨rfl, rfl, rfl, rfl, rfl, trivial⟩ ⟨⟨_, rfl, rfl, (ren_keysD _ ks).symm, id⟩, ⟨_, rfl, rfl, rfl, id⟩, ⟨_, rfl, rfl, rfl, id⟩, ⟨_, rfl, rfl, congrArg D.u8s (if_neg h).symm, id⟩, trivial⟩ rfl
      intro _ _
      have ht : (if k + 1 < 14 then mixF (subI (encI ks b k) 16) else subI (encI ks b k) 16).length = 16 := by
        split
        · exact hmx
        · exact hs
      have hx2 := xorF_length (if k + 1 < 14 then mixF (subI (encI ks b k) 16) else subI (encI ks b k) 16) (ks.getD (k + 1) [])
      rw [ht] at hx2
      repeat first | (rw [nthD_u8s (l := ks)]; rotate_left; omega) | rw [Int.toNat_natCast (k + 1)] | (refine EffG.mk (And.intro ?_ ?_); focus ((repeat' (first | exact trivial | refine And.intro ?_ ?_)) <;> (first | omega | (simp only [hasTy, okP, lenD, D.ren, D.isCell, Option.getD, List.length_set, List.length_take, List.length_drop, List.length_append, List.length_replicate, List.length_map, List.length_cons, List.length_nil, Option.map] <;> omega) | with_reducible assumption | with_reducible rfl | decide); done)) | (refine And.intro ?_ ?_; focus ((repeat' (first | exact trivial | refine And.intro ?_ ?_)) <;> (first | omega | (simp only [hasTy, okP, lenD, D.ren, D.isCell, Option.getD, List.length_set, List.length_take, List.length_drop, List.length_append, List.length_replicate, List.length_map, List.length_cons, List.length_nil, Option.map] <;> omega) | with_reducible assumption | with_reducible rfl | decide); done)) | refine chkG (by kernel_rfl) ?_
      refine callG (xor_ac _ (ks.getD (k + 1) []) ht (hk (k + 1) (by omega))) [] rfl rfl trivial rfl rfl ?_
      repeat first | (refine EffG.mk (And.intro ?_ ?_); focus ((repeat' (first | exact trivial | refine And.intro ?_ ?_)) <;> (first | omega | (simp only [hasTy, okP, lenD, D.ren, D.isCell, Option.getD, List.length_set, List.length_take, List.length_drop, List.length_append, List.length_replicate, List.length_map, List.length_cons, List.length_nil, Option.map] <;> omega) | with_reducible assumption | with_reducible rfl | decide); done)) | (refine And.intro ?_ ?_; focus ((repeat' (first | exact trivial | refine And.intro ?_ ?_)) <;> (first | omega | (simp only [hasTy, okP, lenD, D.ren, D.isCell, Option.getD, List.length_set, List.length_take, List.length_drop, List.length_append, List.length_replicate, List.length_map, List.length_cons, List.length_nil, Option.map] <;> omega) | with_reducible assumption | with_reducible rfl | decide); done)) | refine chkG (by kernel_rfl) ?_
      refine nextG (k + 1) [0, 1, 2, 3] ?_ ?_ ?_
      · omega
      · omega
      · exact viewG rfl ⟨rfl, rfl, rfl, rfl, trivial⟩ ⟨⟨_, rfl, rfl, (ren_keysD _ ks).symm, id⟩, ⟨_, rfl, rfl, rfl, id⟩, ⟨_, rfl, rfl, rfl, id⟩, trivial⟩ rfl
  · have hk14 : k = 14 := by have := of_decide_eq_false h; omega
    repeat first | (refine EffG.mk (And.intro ?_ ?_); focus ((repeat' (first | exact trivial | refine And.intro ?_ ?_)) <;> (first | omega | (simp only [hasTy, okP, lenD, D.ren, D.isCell, Option.getD, List.length_set, List.length_take, List.length_drop, List.length_append, List.length_replicate, List.length_map, List.length_cons, List.length_nil, Option.map] <;> omega) | with_reducible assumption | with_reducible rfl | decide); done)) | (refine And.intro ?_ ?_; focus ((repeat' (first | exact trivial | refine And.intro ?_ ?_)) <;> (first | omega | (simp only [hasTy, okP, lenD, D.ren, D.isCell, Option.getD, List.length_set, List.length_take, List.length_drop, List.length_append, List.length_replicate, List.length_map, List.length_cons, List.length_nil, Option.map] <;> omega) | with_reducible assumption | with_reducible rfl | decide); done)) | refine chkG (by kernel_rfl) ?_
    refine retG [0] ?_ rfl ⟨⟨_, rfl, rfl, (ren_keysD _ ks).symm, id⟩, trivial⟩ rfl
    refine congrArg D.u8s ?_
    rw [hk14]
end Go.Proofs.YtodkhgofmgaafaaDoor.Av

namespace Go.Proofs.YtodkhgofmgaafaaDoor.Av
open Go
set_option linter.all false
set_option maxRecDepth 3000

/-! sums with a key; wrapped keys -/
def hmF (key m : List (BitVec 8)) : List (BitVec 8) := shaF (opF key ++ shaF (ipF key ++ m))
theorem hmF_length (key m : List (BitVec 8)) : (hmF key m).length = 32 := shaF_length _

/-- the first piece behind the key's block -/
theorem ip0 {N : List (BitVec 8)} (h : N.length = 64) : (N.drop 64).take (N.length % 64) = reF N := by rw [reF, h, List.drop_of_length_le (by omega)]; rfl

theorem hof2_ac (ks ss us : List (BitVec 8)) (p k q l r n : Nat) (c d f : Option Nat) (ha : p + k ≤ ks.length) (hb : q + l ≤ ss.length) (hc : r + n ≤ us.length) (hk : k ≤ 64) (hl0 : 0 < l) (hl : l ≤ 35184372088832) (hn0 : 0 < n) (hn : n ≤ 35184372088832) :
    AC Tryd.prog 58 [.slice 0 [] p k c, .slice 1 [] 0 2 (some 2)] 4 [(0, some ⟨.row .cell, .u8s ks, false⟩), (1, some ⟨.row .cell, .node [.slice 2 [] q l d, .slice 3 [] r n f], true⟩), (2, some ⟨.row .cell, .u8s ss, false⟩), (3, some ⟨.row .cell, .u8s us, false⟩), gR]
      ⟨.u8s (hmF ((ks.drop p).take k) ((ss.drop q).take l ++ (us.drop r).take n)), [], []⟩ := by
  have hkl : ((ks.drop p).take k).length = k := by rw [List.length_take, List.length_drop]; omega
  have hbl : ((ss.drop q).take l).length = l := by rw [List.length_take, List.length_drop]; omega
  have hul : ((us.drop r).take n).length = n := by rw [List.length_take, List.length_drop]; omega
  have hn := hnew_ac ks p k c ha hk
  have e : hmF ((ks.drop p).take k) ((ss.drop q).take l ++ (us.drop r).take n) = shaF (opF ((ks.drop p).take k) ++ shaF (ipF ((ks.drop p).take k) ++ ((ss.drop q).take l ++ (us.drop r).take n))) := rfl
  rw [← List.append_assoc] at e
  have hO := opF_length ((ks.drop p).take k)
  have hN := ipF_length (key := (ks.drop p).take k) (by omega)
  generalize hmF ((ks.drop p).take k) ((ss.drop q).take l ++ (us.drop r).take n) = y at e ⊢
  generalize opF ((ks.drop p).take k) = O at hn e hO
  generalize ipF ((ks.drop p).take k) = N at hn e hN
  have hw := macwrite_ac O N N ss 64 q l d (ip0 hN) (by rw [hN]; decide) hb hl0 hl (by omega)
  have hr := writeM_rest N ((ss.drop q).take l) hbl
  have hm := writeM_room N ((ss.drop q).take l) hbl
  rw [hN] at hr hm
  generalize (ss.drop q).take l = b at hw hr hm e hbl
  have hNl : (N ++ b).length = 64 + l := by rw [List.length_append, hN, hbl]
  have hw2 := macwrite_ac O (N ++ b) (reF N ++ b) us (64 * ((64 % 64 + l) / 64)) r n f (by rw [hNl]; exact hr) (by rw [hNl]; exact hm) hc hn0 (by omega) (by omega)
  have hr2 := writeM_rest (N ++ b) ((us.drop r).take n) hul
  have hm2 := writeM_room (N ++ b) ((us.drop r).take n) hul
  rw [hNl] at hr2 hm2
  generalize (us.drop r).take n = u at hw2 hr2 hm2 e hul
  have hNl2 : (N ++ b ++ u).length = 64 + l + n := by rw [List.length_append, hNl, hul]
  have hs := macsum_ac O (N ++ b ++ u) (reF (N ++ b) ++ u) (64 * (((64 + l) % 64 + n) / 64)) (by rw [hNl2]; exact hr2) (by rw [hNl2]; exact hm2) (by omega) hO
  rw [← e, hNl2] at hs
  rw [hNl] at hw2
  rw [hN] at hw
  have hy : y.length = 32 := by rw [e]; exact shaF_length _
  refine acA tab mix Tryd.func58 ⟨[], [3]⟩ ?_
  repeat first | refine EffG.mk (obA ?_) | refine obA ?_ | refine chkA ?_
  refine callA hn [0] ?_
  repeat first | refine EffG.mk (obA ?_) | refine obA ?_ | refine chkA ?_
  refine unrG 3 ?_
  repeat first | refine EffG.mk (obA ?_) | refine obA ?_ | refine chkA ?_ | refine brY ?_ | refine brN ?_
  refine callA hw [5, 6, 2, 7] ?_
  repeat first | refine EffG.mk (obA ?_) | refine obA ?_ | refine chkA ?_ | refine brY ?_ | refine brN ?_
  refine callA hw2 [5, 6, 3, 8] ?_
  repeat first | refine EffG.mk (obA ?_) | refine obA ?_ | refine chkA ?_ | refine brY ?_ | refine brN ?_
  refine callA hs [5, 6, 9] ?_
  repeat first | refine EffG.mk (obA ?_) | refine obA ?_ | refine chkA ?_
  refine retA [0, 1, 2, 3]

/-! are bytes the same? -/
def apI (a b : List (BitVec 8)) : Nat → BitVec 8
  | 0 => 0
  | i + 1 => apI a b i ||| (a.getD i 0 ^^^ b.getD i 0)
theorem or_zero {x y : BitVec 8} : x ||| y = 0 ↔ x = 0 ∧ y = 0 := by
  refine ⟨fun h => ⟨?_, ?_⟩, fun ⟨h, h'⟩ => by rw [h, h']; rfl⟩
  · refine BitVec.eq_of_getLsbD_eq fun i _ => ?_
    have := congrArg (fun z => BitVec.getLsbD z i) h
    simp only [BitVec.getLsbD_or] at this
    revert this; cases x.getLsbD i <;> simp
  · refine BitVec.eq_of_getLsbD_eq fun i _ => ?_
    have := congrArg (fun z => BitVec.getLsbD z i) h
    simp only [BitVec.getLsbD_or] at this
    revert this; cases y.getLsbD i <;> simp
theorem xor_zero {x y : BitVec 8} : x ^^^ y = 0 ↔ x = y := by
  refine ⟨fun h => ?_, fun h => by rw [h, BitVec.xor_self]; rfl⟩
  refine BitVec.eq_of_getLsbD_eq fun i _ => ?_
  have := congrArg (fun z => BitVec.getLsbD z i) h
  simp only [BitVec.getLsbD_xor] at this
  revert this; cases x.getLsbD i <;> cases y.getLsbD i <;> simp
theorem apI_zero (a b : List (BitVec 8)) : ∀ n, apI a b n = 0 ↔ ∀ i, i < n → a.getD i 0 = b.getD i 0
  | 0 => ⟨fun _ i h => absurd h (Nat.not_lt_zero i), fun _ => rfl⟩
  | n + 1 => by
    rw [apI, or_zero, apI_zero a b n, xor_zero]
    refine ⟨fun ⟨h1, h2⟩ i hi => ?_, fun h => ⟨fun i hi => h i (by omega), h n (by omega)⟩⟩
    rcases Nat.lt_or_ge i n with h | h
    · exact h1 i h
    · obtain rfl : i = n := by omega
      exact h2
theorem eq_getD {a b : List (BitVec 8)} (hl : a.length = b.length) (h : ∀ i, i < a.length → a.getD i 0 = b.getD i 0) : a = b := by
  refine List.ext_getElem hl fun i h1 h2 => ?_
  have := h i h1
  simpa [List.getD_eq_getElem?_getD, List.getElem?_eq_getElem h1, List.getElem?_eq_getElem h2] using this
theorem equal_ac (ss us : List (BitVec 8)) (n : Nat) (c d : Option Nat) (hs : ss.length = n) (hu : us.length = n) (hn : n ≤ 1000000) :
    AC Tryd.prog 90 [.slice 0 [] 0 n c, .slice 1 [] 0 n d] 2 [(0, some ⟨.row .cell, .u8s ss, false⟩), (1, some ⟨.row .cell, .u8s us, false⟩)] ⟨.bool (decide (ss = us)), [], []⟩ := by
  have hE : decide (ss = us) = decide (apI ss us n = 0) := by
    refine decide_eq_decide.2 ⟨fun h => (apI_zero ss us n).2 fun i _ => by rw [h], fun h => eq_getD (by omega) fun i hi => (apI_zero ss us n).1 h i (by omega)⟩
  rw [hE]
  refine acA tab mix Tryd.func90 {} ?_
  repeat first | refine EffG.mk (obA ?_) | refine obA ?_ | refine chkA ?_
  refine Br.no (by simp) ?_
  repeat first | refine EffG.mk (obA ?_) | refine obA ?_ | refine chkA ?_
  refine loopG Nat (fun i => [(0, .slice 0 [] 0 n c), (1, .slice 1 [] 0 n d), (5, .u8 (apI ss us i)), (13, .i64 n), (14, .i64 i)]) (fun i => [(0, some ⟨.row .cell, .u8s ss, false⟩), (1, some ⟨.row .cell, .u8s us, false⟩)]) 2 (fun i => i ≤ n) (fun i => n - i) 0 [0, 1] (Nat.zero_le _) viewA ?_
  intro i hi
  repeat first | refine EffG.mk (obA ?_) | refine obA ?_ | refine chkA ?_
  refine Br.split (fun h => ?_) (fun h => ?_)
  · have hi : i < n := by have := of_decide_eq_true h; omega
    repeat first | refine EffG.mk (obA ?_) | refine obA ?_ | refine chkA ?_
    refine nextA (i + 1) [0, 1] viewA
  · obtain rfl : i = n := by have := of_decide_eq_false h; omega
    repeat first | refine EffG.mk (obA ?_) | refine obA ?_ | refine chkA ?_
    refine retA [0, 1]

def oursF : List (BitVec 8) := [114, 101, 108, 105, 113, 117, 97, 114, 121, 32]
def labF (key l : List (BitVec 8)) : List (BitVec 8) := hmF key (oursF ++ l)
theorem labF_length (key l : List (BitVec 8)) : (labF key l).length = 32 := hmF_length _ _
theorem label_ac (key l : List (BitVec 8)) (hk : key.length = 32) (h0 : 0 < l.length) (hl : l.length ≤ 100) : AC Tryd.prog 76 [.u8s key, .str l] 0 [gR] ⟨.u8s (labF key l), [], []⟩ := by
  have ho := hof2_ac key oursF l 0 32 0 10 0 l.length (some 32) (some 10) none (by omega) (by decide) (by omega) (by decide) (by decide) (by decide) h0 (by omega)
  have e : labF key l = hmF key (oursF ++ l) := rfl
  rw [List.drop_zero, List.drop_zero, List.drop_zero, List.take_of_length_le (by omega), List.take_of_length_le (by decide), List.take_of_length_le (Nat.le_refl _), ← e] at ho
  have hy := labF_length key l
  generalize labF key l = y at ho hy ⊢
  refine acA tab mix Tryd.func76 {} ?_
  repeat first | refine EffG.mk (obA ?_) | refine obA ?_ | refine chkA ?_
  refine callA (ho.arr 0 32) [0, 4, 2, 3] ?_
  repeat first | refine EffG.mk (obA ?_) | refine obA ?_ | refine chkA ?_
  refine retA []
end Go.Proofs.YtodkhgofmgaafaaDoor.Av

namespace Go.Proofs.YtodkhgofmgaafaaDoor.Av
open Go
set_option linter.all false
set_option maxRecDepth 3000

end Go.Proofs.YtodkhgofmgaafaaDoor.Av

namespace Go.Proofs.YtodkhgofmgaafaaDoor.Av
open Go
set_option linter.all false
set_option maxRecDepth 3000

/-! keys of passphrases -/
end Go.Proofs.YtodkhgofmgaafaaDoor.Av

namespace Go.Proofs.YtodkhgofmgaafaaDoor.Av
open Go
set_option linter.all false
set_option maxRecDepth 3000

instance (ks : List (List (BitVec 8))) : Pure (keysD ks) := ⟨fun s => ren_keysD s ks⟩
end Go.Proofs.YtodkhgofmgaafaaDoor.Av

namespace Go.Proofs.YtodkhgofmgaafaaDoor.Av
open Go
set_option linter.all false
set_option maxRecDepth 3000

/-! key slots -/
structure Slot where
  used : Bool
  turns : BitVec 16
  salt : List (BitVec 8)
  sealed : List (BitVec 8)
  check : List (BitVec 8)
abbrev slotD (s : Slot) : D := .node [.bool s.used, .u16 s.turns, .u8s s.salt, .u8s s.sealed, .u8s s.check]
abbrev tSlot : Ty := .st [.cell, .cell, .arr 16 .cell, .arr 32 .cell, .arr 32 .cell]
abbrev tTab : Ty := .arr 8 tSlot
structure Slot.ok (s : Slot) : Prop where
  salt : s.salt.length = 16
  sealed : s.sealed.length = 32
  check : s.check.length = 32
def slot0 : Slot := ⟨false, 0, List.replicate 16 0, List.replicate 32 0, List.replicate 32 0⟩
structure TabS (l : List Slot) : Prop where
  len : l.length = 8
  ok : ∀ s ∈ l, s.ok
theorem TabS.at {l : List Slot} (h : TabS l) {i : Nat} (hi : i < 8) : (l.getD i slot0).ok := h.ok _ (getD_mem (by rw [h.len]; exact hi))
theorem slot_ty {s : Slot} (h : s.ok) : hasTy tSlot (slotD s) := ⟨rfl, rfl, h.salt, h.sealed, h.check, trivial⟩
abbrev tabD (l : List Slot) : D := .node (l.map slotD)
theorem slots_ty : ∀ {l : List Slot}, (∀ s ∈ l, s.ok) → AllD (hasTy tSlot) (l.map slotD)
  | [], _ => trivial
  | s :: l, h => ⟨slot_ty (h s (by simp)), slots_ty fun x hx => h x (by simp [hx])⟩
theorem TabS.ty {l : List Slot} (h : TabS l) : hasTy tTab (tabD l) := ⟨by rw [List.length_map, h.len], slots_ty h.ok⟩
theorem ren_slots (s : Nat → Nat) : ∀ l : List Slot, D.rens s (l.map slotD) = l.map slotD
  | [] => rfl
  | a :: l => congrArg (slotD a :: ·) (ren_slots s l)
instance (l : List Slot) : Pure (tabD l) := ⟨fun s => congrArg D.node (ren_slots s l)⟩
instance (s : Slot) : Pure (slotD s) := ⟨fun _ => rfl⟩
end Go.Proofs.YtodkhgofmgaafaaDoor.Av

namespace Go.Proofs.YtodkhgofmgaafaaDoor.Av
open Go
set_option linter.all false
set_option maxRecDepth 3000

/-! a new slot -/
end Go.Proofs.YtodkhgofmgaafaaDoor.Av

namespace Go.Proofs.YtodkhgofmgaafaaDoor.Av
open Go
set_option linter.all false
set_option maxRecDepth 3000

end Go.Proofs.YtodkhgofmgaafaaDoor.Av

namespace Go.Proofs.YtodkhgofmgaafaaDoor.Av
open Go
set_option linter.all false
set_option maxRecDepth 3000

theorem TabS.set {l : List Slot} (h : TabS l) {i : Nat} {s : Slot} (hs : s.ok) : TabS (l.set i s) := ⟨by rw [List.length_set, h.len], fun x hx => by
  rcases List.mem_or_eq_of_mem_set hx with h1 | h1
  · exact h.ok x h1
  · rw [h1]; exact hs⟩

end Go.Proofs.YtodkhgofmgaafaaDoor.Av

namespace Go.Proofs.YtodkhgofmgaafaaDoor.Av
open Go
set_option linter.all false
set_option maxRecDepth 3000

/-! the document's sums: the same functions -/
theorem rd4_eq (bs : List (BitVec 8)) (o : Nat) : (rdI bs o 4).setWidth 32 = (bs.getD o 0).setWidth 32 <<< 24 ||| (bs.getD (o + 1) 0).setWidth 32 <<< 16 ||| (bs.getD (o + 2) 0).setWidth 32 <<< 8 ||| (bs.getD (o + 3) 0).setWidth 32 := by
  simp only [rdI, Nat.add_zero]
  generalize bs.getD o 0 = a
  generalize bs.getD (o + 1) 0 = b
  generalize bs.getD (o + 2) 0 = c
  generalize bs.getD (o + 3) 0 = d
  refine BitVec.eq_of_getLsbD_eq fun i hi => ?_
  simp only [BitVec.getLsbD_setWidth, BitVec.getLsbD_or, BitVec.getLsbD_shiftLeft, hi, decide_true, Bool.true_and, BitVec.getLsbD_zero, Bool.and_false, Bool.false_or]
  have key : ∀ (x : BitVec 8) (k : Nat), 8 ≤ k → x.getLsbD k = false := fun x k hk => BitVec.getLsbD_of_ge _ _ hk
  rcases Nat.lt_or_ge i 8 with h | h
  · simp [h, show i < 16 by omega, show i < 24 by omega, show i < 64 by omega]
  rcases Nat.lt_or_ge i 16 with h2 | h2
  · simp [show ¬ i < 8 by omega, h2, show i < 24 by omega, show i < 64 by omega, key d i h, show i - 8 < 8 by omega, show i - 8 < 64 by omega, show i - 8 < 32 by omega]
  rcases Nat.lt_or_ge i 24 with h3 | h3
  · simp [show ¬ i < 8 by omega, show ¬ i < 16 by omega, h3, show i < 64 by omega, key d i h, key c (i - 8) (by omega), show ¬ i - 8 < 8 by omega, show i - 8 < 64 by omega, show i - 8 - 8 = i - 16 by omega, show i - 16 < 8 by omega, show i - 16 < 64 by omega, show i - 16 < 32 by omega]
  · simp [show ¬ i < 8 by omega, show ¬ i < 16 by omega, show ¬ i < 24 by omega, show i < 64 by omega, key d i h, key c (i - 8) (by omega), key b (i - 16) (by omega), show ¬ i - 8 < 8 by omega, show i - 8 < 64 by omega, show i - 8 - 8 = i - 16 by omega, show i - 16 - 8 = i - 24 by omega, show ¬ i - 16 < 8 by omega, show i - 16 < 64 by omega, show i - 24 < 64 by omega, show i - 24 < 32 by omega]

end Go.Proofs.YtodkhgofmgaafaaDoor.Av

namespace Go.Proofs.YtodkhgofmgaafaaDoor.Av
open Go
set_option linter.all false
set_option maxRecDepth 3000

def be4 (n : BitVec 64) : List (BitVec 8) := [(n >>> 24).setWidth 8, (n >>> 16).setWidth 8, (n >>> 8).setWidth 8, (n >>> 0).setWidth 8]
theorem be4_eq (n : BitVec 64) : be4 n = nbF n 4 := by
  have h : nbF n 4 = [(n >>> 8 >>> 8 >>> 8).setWidth 8, (n >>> 8 >>> 8).setWidth 8, (n >>> 8).setWidth 8, n.setWidth 8] := rfl
  rw [h, be4]
  simp only [← BitVec.shiftRight_add, BitVec.ushiftRight_zero]

/-! the state as bytes -/
def wbI (s : List (BitVec 32)) : Nat → List (BitVec 8)
  | 0 => List.replicate 32 0
  | i + 1 => (wbI s i).set i ((s.getD (i / 4) 0 >>> (24 - 8 * (i % 4))).setWidth 8)
theorem nb4w (x : BitVec 32) : nbF (x.setWidth 64) 4 = [(x >>> 24).setWidth 8, (x >>> 16).setWidth 8, (x >>> 8).setWidth 8, (x >>> 0).setWidth 8] := by
  have key : ∀ k : Nat, (x.setWidth 64 >>> k).setWidth 8 = (x >>> k).setWidth 8 := fun k => by
    refine BitVec.eq_of_getLsbD_eq fun i hi => ?_
    simp only [BitVec.getLsbD_setWidth, BitVec.getLsbD_ushiftRight, hi, decide_true, Bool.true_and]
    rcases Nat.lt_or_ge (k + i) 64 with h | h
    · simp [h]
    · rw [BitVec.getLsbD_of_ge x (k + i) (by omega)]; simp
  rw [← be4_eq, be4, key, key, key, key]
theorem wbI_out (s : List (BitVec 32)) (hs : s.length = 8) : wbI s 32 = outI s 8 := by
  obtain ⟨a, b, c, d, e, f, g, i, rfl⟩ := len8 hs
  simp only [outI, nb4w]
  kernel_rfl

end Go.Proofs.YtodkhgofmgaafaaDoor.Av

namespace Go.Proofs.YtodkhgofmgaafaaDoor.Av
open Go
set_option linter.all false
set_option maxRecDepth 3000

/-! sums that the kernel reckons: the same function, with all words as arguments -/
def goR : List (BitVec 32) → (x0 x1 x2 x3 x4 x5 x6 x7 x8 x9 x10 x11 x12 x13 x14 x15 a b c d e f g h : BitVec 32) → List (BitVec 32)
  | [], _, _, _, _, _, _, _, _, _, _, _, _, _, _, _, _, a, b, c, d, e, f, g, h => [a, b, c, d, e, f, g, h]
  | k :: ks, x0, x1, x2, x3, x4, x5, x6, x7, x8, x9, x10, x11, x12, x13, x14, x15, a, b, c, d, e, f, g, h =>
    goR ks x1 x2 x3 x4 x5 x6 x7 x8 x9 x10 x11 x12 x13 x14 x15 (mixW x14 17 19 10 + x9 + mixW x1 7 18 3 + x0)
      (h + rsF e 6 11 25 + (e &&& f ||| ~~~e &&& g) + k + x0 + (rsF a 2 13 22 + (a &&& b ||| c &&& (a ||| b)))) a b c (d + (h + rsF e 6 11 25 + (e &&& f ||| ~~~e &&& g) + k + x0)) e f g

theorem wI_keep (bs : List (BitVec 8)) (o t : Nat) : ∀ n, t < n → n ≤ 64 → (wI bs o n).getD t 0 = (wI bs o (t + 1)).getD t 0
  | 0, h, _ => absurd h (Nat.not_lt_zero t)
  | n + 1, h, hn => by
    by_cases e : t = n
    · rw [e]
    · have hl := wI_length bs o n
      rw [wI, getD_set (by omega), if_neg e]
      exact wI_keep bs o t n (by omega) (by omega)
theorem wI_lo (bs : List (BitVec 8)) (o t : Nat) (h : t < 16) : (wI bs o 64).getD t 0 = (rdI bs (o + 4 * t) 4).setWidth 32 := by
  have hl := wI_length bs o t
  rw [wI_keep bs o t 64 (by omega) (Nat.le_refl _), wI, getD_set (by omega), if_pos rfl, if_pos h]
theorem wI_hi (bs : List (BitVec 8)) (o t : Nat) (h : 16 ≤ t) (h2 : t < 64) : (wI bs o 64).getD t 0 =
    mixW ((wI bs o 64).getD (t - 2) 0) 17 19 10 + (wI bs o 64).getD (t - 7) 0 + mixW ((wI bs o 64).getD (t - 15) 0) 7 18 3 + (wI bs o 64).getD (t - 16) 0 := by
  have hl := wI_length bs o t
  have key : ∀ j, j < t → (wI bs o t).getD j 0 = (wI bs o 64).getD j 0 := fun j hj => by rw [wI_keep bs o j t hj (by omega), wI_keep bs o j 64 (by omega) (Nat.le_refl _)]
  rw [wI_keep bs o t 64 h2 (Nat.le_refl _), wI, getD_set (by omega), if_pos rfl, if_neg (by omega), show ((t : Int) - 2).toNat = t - 2 by omega, show ((t : Int) - 7).toNat = t - 7 by omega, show ((t : Int) - 15).toNat = t - 15 by omega, show ((t : Int) - 16).toNat = t - 16 by omega,
    key _ (by omega), key _ (by omega), key _ (by omega), key _ (by omega)]
theorem goR_eq (bs : List (BitVec 8)) (o : Nat) (s : List (BitVec 32)) (hs : s.length = 8) : ∀ (n t : Nat) (x0 x1 x2 x3 x4 x5 x6 x7 x8 x9 x10 x11 x12 x13 x14 x15 a b c d e f g h : BitVec 32), t + n = 64 →
    (∀ j, j < 16 → t + j < 64 → [x0, x1, x2, x3, x4, x5, x6, x7, x8, x9, x10, x11, x12, x13, x14, x15].getD j 0 = (wI bs o 64).getD (t + j) 0) → vI (wI bs o 64) s t = [a, b, c, d, e, f, g, h] →
    goR (K256.drop t) x0 x1 x2 x3 x4 x5 x6 x7 x8 x9 x10 x11 x12 x13 x14 x15 a b c d e f g h = vI (wI bs o 64) s 64
  | 0, t, x0, x1, x2, x3, x4, x5, x6, x7, x8, x9, x10, x11, x12, x13, x14, x15, a, b, c, d, e, f, g, h, ht, hx, hv => by
    obtain rfl : t = 64 := by omega
    rw [hv]; rfl
  | n + 1, t, x0, x1, x2, x3, x4, x5, x6, x7, x8, x9, x10, x11, x12, x13, x14, x15, a, b, c, d, e, f, g, h, ht, hx, hv => by
    have hk : K256.drop t = K256.getD t 0 :: K256.drop (t + 1) := by
      have hl : t < K256.length := by rw [K256_length]; omega
      rw [List.getD_eq_getElem?_getD, List.getElem?_eq_getElem hl, Option.getD_some, List.getElem_cons_drop]
    have h0 : x0 = (wI bs o 64).getD t 0 := hx 0 (by decide) (by omega)
    rw [hk, goR]
    refine goR_eq bs o s hs n (t + 1) _ _ _ _ _ _ _ _ _ _ _ _ _ _ _ _ _ _ _ _ _ _ _ _ (by omega) (fun j hj hj2 => ?_) ?_
    · by_cases e : j = 15
      · subst e
        have h1 : x1 = (wI bs o 64).getD (t + 1) 0 := hx 1 (by decide) (by omega)
        have h9 : x9 = (wI bs o 64).getD (t + 9) 0 := hx 9 (by decide) (by omega)
        have h14 : x14 = (wI bs o 64).getD (t + 14) 0 := hx 14 (by decide) (by omega)
        show mixW x14 17 19 10 + x9 + mixW x1 7 18 3 + x0 = _
        rw [wI_hi bs o (t + 1 + 15) (by omega) (by omega), h0, h1, h9, h14]
        rw [show t + 1 + 15 - 2 = t + 14 by omega, show t + 1 + 15 - 7 = t + 9 by omega, show t + 1 + 15 - 15 = t + 1 by omega, show t + 1 + 15 - 16 = t by omega]
      · have := hx (j + 1) (by omega) (by omega)
        rw [show t + 1 + j = t + (j + 1) by omega, ← this]
        have h15 : j < 15 := by omega
        clear this hx e hj hj2
        match j, h15 with
        | 0, _ | 1, _ | 2, _ | 3, _ | 4, _ | 5, _ | 6, _ | 7, _ | 8, _ | 9, _ | 10, _ | 11, _ | 12, _ | 13, _ | 14, _ => rfl
    · show vS (vI (wI bs o 64) s t) (K256.getD t 0) ((wI bs o 64).getD t 0) = _
      rw [hv, ← h0]; rfl

def addE : List (BitVec 32) → List (BitVec 32) → List (BitVec 32)
  | [a, b, c, d, e, f, g, h], [a', b', c', d', e', f', g', h'] => [a + a', b + b', c + c', d + d', e + e', f + f', g + g', h + h']
  | _, _ => []
def blkE : List (BitVec 32) → List (BitVec 32) → List (BitVec 32)
  | [a, b, c, d, e, f, g, h], [x0, x1, x2, x3, x4, x5, x6, x7, x8, x9, x10, x11, x12, x13, x14, x15] => addE [a, b, c, d, e, f, g, h] (goR K256 x0 x1 x2 x3 x4 x5 x6 x7 x8 x9 x10 x11 x12 x13 x14 x15 a b c d e f g h)
  | _, _ => []
theorem addE_eq {s v : List (BitVec 32)} (hs : s.length = 8) (hv : v.length = 8) : sumI s v 8 = addE s v := by
  obtain ⟨a, b, c, d, e, f, g, h, rfl⟩ := len8 hs
  obtain ⟨a', b', c', d', e', f', g', h', rfl⟩ := len8 hv
  rfl
def wordE (bs : List (BitVec 8)) (p : Nat) : BitVec 32 := (bs.getD p 0).setWidth 32 <<< 24 ||| (bs.getD (p + 1) 0).setWidth 32 <<< 16 ||| (bs.getD (p + 2) 0).setWidth 32 <<< 8 ||| (bs.getD (p + 3) 0).setWidth 32
theorem sbF_eval (s : List (BitVec 32)) (bs : List (BitVec 8)) (o : Nat) (hs : s.length = 8) : sbF s bs o = blkE s [wordE bs (o + 4 * 0), wordE bs (o + 4 * 1), wordE bs (o + 4 * 2), wordE bs (o + 4 * 3), wordE bs (o + 4 * 4), wordE bs (o + 4 * 5), wordE bs (o + 4 * 6), wordE bs (o + 4 * 7), wordE bs (o + 4 * 8), wordE bs (o + 4 * 9),
    wordE bs (o + 4 * 10), wordE bs (o + 4 * 11), wordE bs (o + 4 * 12), wordE bs (o + 4 * 13), wordE bs (o + 4 * 14), wordE bs (o + 4 * 15)] := by
  have hv := vI_length (wI bs o 64) s hs 64
  rw [sbF, addE_eq hs hv]
  obtain ⟨a, b, c, d, e, f, g, h, rfl⟩ := len8 hs
  rw [blkE, ← goR_eq bs o _ rfl 64 0 _ _ _ _ _ _ _ _ _ _ _ _ _ _ _ _ a b c d e f g h rfl (fun j hj _ => ?_) rfl, List.drop_zero]
  rw [Nat.zero_add, wI_lo bs o j hj, rd4_eq]
  match j, hj with
  | 0, _ | 1, _ | 2, _ | 3, _ | 4, _ | 5, _ | 6, _ | 7, _ | 8, _ | 9, _ | 10, _ | 11, _ | 12, _ | 13, _ | 14, _ | 15, _ => rfl
  | j + 16, h => exact absurd h (by omega)

/-- a sum by its words: 64 bytes a block -/
def wordsE : Nat → List (BitVec 8) → List (BitVec 32)
  | n + 1, a :: b :: c :: d :: r => (a.setWidth 32 <<< 24 ||| b.setWidth 32 <<< 16 ||| c.setWidth 32 <<< 8 ||| d.setWidth 32) :: wordsE n r
  | _, _ => []
def msgE : Nat → List (BitVec 32) → List (BitVec 8) → List (BitVec 32)
  | 0, s, _ => s
  | n + 1, s, m => msgE n (blkE s (wordsE 16 m)) (m.drop 64)
theorem wordsE_eq : ∀ (n : Nat) (m : List (BitVec 8)) (o : Nat), o + 4 * n ≤ m.length → ∀ j, j < n → (wordsE n (m.drop o)).getD j 0 = wordE m (o + 4 * j)
  | 0, m, o, h, j, hj => absurd hj (Nat.not_lt_zero j)
  | n + 1, m, o, h, j, hj => by
    have key : ∀ p, p < m.length → m.drop p = m.getD p 0 :: m.drop (p + 1) := fun p hp => by
      rw [List.getD_eq_getElem?_getD, List.getElem?_eq_getElem hp, Option.getD_some, List.getElem_cons_drop]
    rw [key o (by omega), key (o + 1) (by omega), key (o + 1 + 1) (by omega), key (o + 1 + 1 + 1) (by omega), wordsE]
    match j, hj with
    | 0, _ => rfl
    | j + 1, hj =>
      show (wordsE n (m.drop (o + 1 + 1 + 1 + 1))).getD j 0 = _
      rw [show o + 1 + 1 + 1 + 1 = o + 4 by omega, wordsE_eq n m (o + 4) (by omega) j (by omega), show o + 4 + 4 * j = o + 4 * (j + 1) by omega]
theorem wordsE_length : ∀ (n : Nat) (m : List (BitVec 8)), 4 * n ≤ m.length → (wordsE n m).length = n
  | 0, m, _ => by cases m <;> rfl
  | n + 1, a :: b :: c :: d :: r, h => by
    rw [wordsE, List.length_cons, wordsE_length n r (by simp only [List.length_cons] at h; omega)]
  | n + 1, [], h => by simp at h
  | n + 1, [_], h => by simp at h; omega
  | n + 1, [_, _], h => by simp at h; omega
  | n + 1, [_, _, _], h => by simp at h; omega
theorem len16 {α : Type} {l : List α} (h : l.length = 16) : ∃ a b c d e f g i a' b' c' d' e' f' g' i', l = [a, b, c, d, e, f, g, i, a', b', c', d', e', f', g', i'] := by
  match l, h with
  | [a, b, c, d, e, f, g, i, a', b', c', d', e', f', g', i'], _ => exact ⟨a, b, c, d, e, f, g, i, a', b', c', d', e', f', g', i', rfl⟩
theorem sb_words (s : List (BitVec 32)) (m : List (BitVec 8)) (o : Nat) (hs : s.length = 8) (h : o + 64 ≤ m.length) : sbF s m o = blkE s (wordsE 16 (m.drop o)) := by
  rw [sbF_eval s m o hs]
  have hl := wordsE_length 16 (m.drop o) (by rw [List.length_drop]; omega)
  have hw := wordsE_eq 16 m o (by omega)
  generalize wordsE 16 (m.drop o) = w at hl hw
  obtain ⟨a, b, c, d, e, f, g, i, a', b', c', d', e', f', g', i', rfl⟩ := len16 hl
  rw [← hw 0 (by decide), ← hw 1 (by decide), ← hw 2 (by decide), ← hw 3 (by decide), ← hw 4 (by decide), ← hw 5 (by decide), ← hw 6 (by decide), ← hw 7 (by decide), ← hw 8 (by decide), ← hw 9 (by decide), ← hw 10 (by decide), ← hw 11 (by decide), ← hw 12 (by decide), ← hw 13 (by decide), ← hw 14 (by decide), ← hw 15 (by decide)]
  rfl
theorem msgE_eq (s : List (BitVec 32)) (hs : s.length = 8) (m : List (BitVec 8)) : ∀ (n j : Nat), 64 * (j + n) ≤ m.length → msgE n (shaI s m j) (m.drop (64 * j)) = shaI s m (j + n)
  | 0, j, _ => rfl
  | n + 1, j, h => by
    rw [msgE, ← sb_words _ m (64 * j) (by rw [shaI_length, hs]) (by omega), List.drop_drop]
    have := msgE_eq s hs m n (j + 1) (by omega)
    rw [show 64 * (j + 1) = 64 * j + 64 by omega, shaI] at this
    rw [this, show j + 1 + n = j + (n + 1) by omega]
def outE : List (BitVec 32) → List (BitVec 8)
  | x :: r => x.setWidth 8 |> fun l => (x >>> 24).setWidth 8 :: (x >>> 16).setWidth 8 :: (x >>> 8).setWidth 8 :: l :: outE r
  | [] => []
theorem outE_eq {s : List (BitVec 32)} (hs : s.length = 8) : outI s 8 = outE s := by
  obtain ⟨a, b, c, d, e, f, g, i, rfl⟩ := len8 hs
  rw [← wbI_out _ rfl]
  have h : ∀ x : BitVec 32, x >>> 0 = x := fun x => BitVec.ushiftRight_zero x
  simp only [outE]
  have key : wbI [a, b, c, d, e, f, g, i] 32 = outE [a >>> 0, b >>> 0, c >>> 0, d >>> 0, e >>> 0, f >>> 0, g >>> 0, i >>> 0] := by
    simp only [outE, h]
    kernel_rfl
  rw [key]
  simp only [outE, h]
/-- what the kernel reckons: n blocks -/
def shaE (m : List (BitVec 8)) (n : Nat) : List (BitVec 8) := outE (msgE n H0 (padF m m.length))
theorem shaE_eq (m : List (BitVec 8)) (n : Nat) (h : (m.length + 9 + zN m.length) / 64 = n) : shaF m = shaE m n := by
  have hp := padF_length m m.length
  have := msgE_eq H0 rfl (padF m m.length) n 0 (by rw [hp]; omega)
  rw [Nat.zero_add] at this
  rw [shaF, outE_eq (by rw [shaI_length]; rfl), hp, h, ← this]
  rfl
end Go.Proofs.YtodkhgofmgaafaaDoor.Av

namespace Go.Proofs.YtodkhgofmgaafaaDoor.Av
open Go
set_option linter.all false
set_option maxRecDepth 3000

/-! the closed case of the key slots: printed by gen_aw.py -/
end Go.Proofs.YtodkhgofmgaafaaDoor.Av

namespace Go.Proofs.YtodkhgofmgaafaaDoor.Av
open Go
set_option linter.all false
set_option maxRecDepth 3000

def uF (s : List (BitVec 8)) (c : Nat) : BitVec 8 := shiftF (shiftF (s.getD c 0 ^^^ s.getD (c + 2) 0))
def vF (s : List (BitVec 8)) (c : Nat) : BitVec 8 := shiftF (shiftF (s.getD (c + 1) 0 ^^^ s.getD (c + 3) 0))
def addF (s : List (BitVec 8)) (c : Nat) (u : BitVec 8) : List (BitVec 8) := s.set c (s.getD c 0 ^^^ u)
def preF (s : List (BitVec 8)) (c : Nat) : List (BitVec 8) := addF (addF (addF (addF s c (uF s c)) (c + 1) (vF s c)) (c + 2) (uF s c)) (c + 3) (vF s c)
def preI (s : List (BitVec 8)) : Nat → List (BitVec 8)
  | 0 => s
  | j + 1 => preF (preI s j) (4 * j)
def unmixF (s : List (BitVec 8)) : List (BitVec 8) := mixF (preI s 4)

theorem addF_length (s : List (BitVec 8)) (c : Nat) (u : BitVec 8) : (addF s c u).length = s.length := List.length_set
theorem preF_length (s : List (BitVec 8)) (c : Nat) : (preF s c).length = s.length := by rw [preF, addF_length, addF_length, addF_length, addF_length]
theorem preI_length (s : List (BitVec 8)) : ∀ j, (preI s j).length = s.length
  | 0 => rfl
  | j + 1 => by rw [preI, preF_length, preI_length s j]
theorem unmixF_length (s : List (BitVec 8)) : (unmixF s).length = s.length := by rw [unmixF, mixF_length, preI_length]

theorem unmixed_ac (s : List (BitVec 8)) (hs : s.length = 16) : AC Tryd.prog 148 [.u8s s] 0 [] ⟨.u8s (unmixF s), [], []⟩ := by
  refine ac_of tab mix Tryd.func148 rfl (by kernel_rfl) (by kernel_rfl) (by kernel_rfl) {} ?_
  repeat first | (refine EffG.mk (And.intro ?_ ?_); focus ((repeat' (first | exact trivial | refine And.intro ?_ ?_)) <;> (first | omega | (simp only [hasTy, okP, lenD, D.ren, D.isCell, Option.getD, List.length_set, List.length_take, List.length_drop, List.length_append, List.length_replicate, List.length_map, List.length_cons, List.length_nil, Option.map] <;> omega) | with_reducible assumption | with_reducible rfl | decide); done)) | (refine And.intro ?_ ?_; focus ((repeat' (first | exact trivial | refine And.intro ?_ ?_)) <;> (first | omega | (simp only [hasTy, okP, lenD, D.ren, D.isCell, Option.getD, List.length_set, List.length_take, List.length_drop, List.length_append, List.length_replicate, List.length_map, List.length_cons, List.length_nil, Option.map] <;> omega) | with_reducible assumption | with_reducible rfl | decide); done)) | refine chkG (by kernel_rfl) ?_
  refine loopG Nat (fun j => [(1, .ptr 0 []), (2, .ptr 1 []), (3, .i64 (4 * j : Nat))]) (fun j => [(0, some ⟨t16, .u8s (preI s j), true⟩), (1, some ⟨t16, .u8s (List.replicate 16 0), true⟩)]) 2
    (fun j => j ≤ 4) (fun j => 4 - j) 0 [0, 1] (Nat.zero_le _) ?_ ?_
  · exact viewG rfl ⟨rfl, rfl, rfl, trivial⟩ ⟨⟨_, rfl, rfl, rfl, id⟩, ⟨_, rfl, rfl, rfl, id⟩, trivial⟩ rfl
  intro j hj
  have hl := preI_length s j
  rw [hs] at hl
  repeat first | (refine EffG.mk (And.intro ?_ ?_); focus ((repeat' (first | exact trivial | refine And.intro ?_ ?_)) <;> (first | omega | (simp only [hasTy, okP, lenD, D.ren, D.isCell, Option.getD, List.length_set, List.length_take, List.length_drop, List.length_append, List.length_replicate, List.length_map, List.length_cons, List.length_nil, Option.map] <;> omega) | with_reducible assumption | with_reducible rfl | decide); done)) | (refine And.intro ?_ ?_; focus ((repeat' (first | exact trivial | refine And.intro ?_ ?_)) <;> (first | omega | (simp only [hasTy, okP, lenD, D.ren, D.isCell, Option.getD, List.length_set, List.length_take, List.length_drop, List.length_append, List.length_replicate, List.length_map, List.length_cons, List.length_nil, Option.map] <;> omega) | with_reducible assumption | with_reducible rfl | decide); done)) | refine chkG (by kernel_rfl) ?_
  refine Br.split (fun h => ?_) (fun h => ?_)
  · have hj : j < 4 := by have := of_decide_eq_true h; omega
    repeat first | (refine EffG.mk (And.intro ?_ ?_); focus ((repeat' (first | exact trivial | refine And.intro ?_ ?_)) <;> (first | omega | (simp only [hasTy, okP, lenD, D.ren, D.isCell, Option.getD, List.length_set, List.length_take, List.length_drop, List.length_append, List.length_replicate, List.length_map, List.length_cons, List.length_nil, Option.map] <;> omega) | with_reducible assumption | with_reducible rfl | decide); done)) | (refine And.intro ?_ ?_; focus ((repeat' (first | exact trivial | refine And.intro ?_ ?_)) <;> (first | omega | (simp only [hasTy, okP, lenD, D.ren, D.isCell, Option.getD, List.length_set, List.length_take, List.length_drop, List.length_append, List.length_replicate, List.length_map, List.length_cons, List.length_nil, Option.map] <;> omega) | with_reducible assumption | with_reducible rfl | decide); done)) | refine chkG (by kernel_rfl) ?_
    refine callG (double_ac _) [] rfl rfl trivial rfl rfl ?_
    repeat first | (refine EffG.mk (And.intro ?_ ?_); focus ((repeat' (first | exact trivial | refine And.intro ?_ ?_)) <;> (first | omega | (simp only [hasTy, okP, lenD, D.ren, D.isCell, Option.getD, List.length_set, List.length_take, List.length_drop, List.length_append, List.length_replicate, List.length_map, List.length_cons, List.length_nil, Option.map] <;> omega) | with_reducible assumption | with_reducible rfl | decide); done)) | (refine And.intro ?_ ?_; focus ((repeat' (first | exact trivial | refine And.intro ?_ ?_)) <;> (first | omega | (simp only [hasTy, okP, lenD, D.ren, D.isCell, Option.getD, List.length_set, List.length_take, List.length_drop, List.length_append, List.length_replicate, List.length_map, List.length_cons, List.length_nil, Option.map] <;> omega) | with_reducible assumption | with_reducible rfl | decide); done)) | refine chkG (by kernel_rfl) ?_
    refine callG (double_ac _) [] rfl rfl trivial rfl rfl ?_
    repeat first | (refine EffG.mk (And.intro ?_ ?_); focus ((repeat' (first | exact trivial | refine And.intro ?_ ?_)) <;> (first | omega | (simp only [hasTy, okP, lenD, D.ren, D.isCell, Option.getD, List.length_set, List.length_take, List.length_drop, List.length_append, List.length_replicate, List.length_map, List.length_cons, List.length_nil, Option.map] <;> omega) | with_reducible assumption | with_reducible rfl | decide); done)) | (refine And.intro ?_ ?_; focus ((repeat' (first | exact trivial | refine And.intro ?_ ?_)) <;> (first | omega | (simp only [hasTy, okP, lenD, D.ren, D.isCell, Option.getD, List.length_set, List.length_take, List.length_drop, List.length_append, List.length_replicate, List.length_map, List.length_cons, List.length_nil, Option.map] <;> omega) | with_reducible assumption | with_reducible rfl | decide); done)) | refine chkG (by kernel_rfl) ?_
    refine callG (double_ac _) [] rfl rfl trivial rfl rfl ?_
    repeat first | (refine EffG.mk (And.intro ?_ ?_); focus ((repeat' (first | exact trivial | refine And.intro ?_ ?_)) <;> (first | omega | (simp only [hasTy, okP, lenD, D.ren, D.isCell, Option.getD, List.length_set, List.length_take, List.length_drop, List.length_append, List.length_replicate, List.length_map, List.length_cons, List.length_nil, Option.map] <;> omega) | with_reducible assumption | with_reducible rfl | decide); done)) | (refine And.intro ?_ ?_; focus ((repeat' (first | exact trivial | refine And.intro ?_ ?_)) <;> (first | omega | (simp only [hasTy, okP, lenD, D.ren, D.isCell, Option.getD, List.length_set, List.length_take, List.length_drop, List.length_append, List.length_replicate, List.length_map, List.length_cons, List.length_nil, Option.map] <;> omega) | with_reducible assumption | with_reducible rfl | decide); done)) | refine chkG (by kernel_rfl) ?_
    refine callG (double_ac _) [] rfl rfl trivial rfl rfl ?_
    repeat first | (refine EffG.mk (And.intro ?_ ?_); focus ((repeat' (first | exact trivial | refine And.intro ?_ ?_)) <;> (first | omega | (simp only [hasTy, okP, lenD, D.ren, D.isCell, Option.getD, List.length_set, List.length_take, List.length_drop, List.length_append, List.length_replicate, List.length_map, List.length_cons, List.length_nil, Option.map] <;> omega) | with_reducible assumption | with_reducible rfl | decide); done)) | (refine And.intro ?_ ?_; focus ((repeat' (first | exact trivial | refine And.intro ?_ ?_)) <;> (first | omega | (simp only [hasTy, okP, lenD, D.ren, D.isCell, Option.getD, List.length_set, List.length_take, List.length_drop, List.length_append, List.length_replicate, List.length_map, List.length_cons, List.length_nil, Option.map] <;> omega) | with_reducible assumption | with_reducible rfl | decide); done)) | refine chkG (by kernel_rfl) ?_
    refine nextG (j + 1) [0, 1] ?_ ?_ ?_
    · omega
    · omega
    · exact viewG rfl ⟨rfl, rfl, rfl, trivial⟩ ⟨⟨_, rfl, rfl, rfl, id⟩, ⟨_, rfl, rfl, rfl, id⟩, trivial⟩ rfl
  · have hj : j = 4 := by have := of_decide_eq_false h; omega
    have hm := mixF_length (preI s j)
    rw [hl] at hm
    repeat first | (refine EffG.mk (And.intro ?_ ?_); focus ((repeat' (first | exact trivial | refine And.intro ?_ ?_)) <;> (first | omega | (simp only [hasTy, okP, lenD, D.ren, D.isCell, Option.getD, List.length_set, List.length_take, List.length_drop, List.length_append, List.length_replicate, List.length_map, List.length_cons, List.length_nil, Option.map] <;> omega) | with_reducible assumption | with_reducible rfl | decide); done)) | (refine And.intro ?_ ?_; focus ((repeat' (first | exact trivial | refine And.intro ?_ ?_)) <;> (first | omega | (simp only [hasTy, okP, lenD, D.ren, D.isCell, Option.getD, List.length_set, List.length_take, List.length_drop, List.length_append, List.length_replicate, List.length_map, List.length_cons, List.length_nil, Option.map] <;> omega) | with_reducible assumption | with_reducible rfl | decide); done)) | refine chkG (by kernel_rfl) ?_
    refine callG (mixed_ac _ hl) [] rfl rfl trivial rfl rfl ?_
    repeat first | (refine EffG.mk (And.intro ?_ ?_); focus ((repeat' (first | exact trivial | refine And.intro ?_ ?_)) <;> (first | omega | (simp only [hasTy, okP, lenD, D.ren, D.isCell, Option.getD, List.length_set, List.length_take, List.length_drop, List.length_append, List.length_replicate, List.length_map, List.length_cons, List.length_nil, Option.map] <;> omega) | with_reducible assumption | with_reducible rfl | decide); done)) | (refine And.intro ?_ ?_; focus ((repeat' (first | exact trivial | refine And.intro ?_ ?_)) <;> (first | omega | (simp only [hasTy, okP, lenD, D.ren, D.isCell, Option.getD, List.length_set, List.length_take, List.length_drop, List.length_append, List.length_replicate, List.length_map, List.length_cons, List.length_nil, Option.map] <;> omega) | with_reducible assumption | with_reducible rfl | decide); done)) | refine chkG (by kernel_rfl) ?_
    refine retG [] ?_ rfl trivial rfl
    refine congrArg D.u8s ?_
    rw [hj]; rfl

def usubI (s : List (BitVec 8)) : Nat → List (BitVec 8)
  | 0 => List.replicate 16 0
  | i + 1 => (usubI s i).set ((i + 4 * (i % 4)) % 16) (usboxF (s.getD i 0))
theorem usubI_length (s : List (BitVec 8)) : ∀ i, (usubI s i).length = 16
  | 0 => rfl
  | i + 1 => by rw [usubI, List.length_set, usubI_length s i]
def decT (ks : List (List (BitVec 8))) (k : Nat) (s : List (BitVec 8)) : List (BitVec 8) := if 14 - k < 14 then unmixF (xorF s (ks.getD (14 - k) [])) else xorF s (ks.getD (14 - k) [])
def decI (ks : List (List (BitVec 8))) (b : List (BitVec 8)) : Nat → List (BitVec 8)
  | 0 => b
  | k + 1 => usubI (decT ks k (decI ks b k)) 16
def decF (ks : List (List (BitVec 8))) (b : List (BitVec 8)) : List (BitVec 8) := xorF (decI ks b 14) (ks.getD 0 [])
theorem decT_length (ks : List (List (BitVec 8))) (k : Nat) (s : List (BitVec 8)) : (decT ks k s).length = s.length := by
  unfold decT
  split
  · rw [unmixF_length, xorF_length]
  · rw [xorF_length]
theorem decI_length (ks : List (List (BitVec 8))) (b : List (BitVec 8)) (hb : b.length = 16) : ∀ k, (decI ks b k).length = 16
  | 0 => hb
  | k + 1 => by rw [decI, usubI_length]

theorem decrypt_ac (ks : List (List (BitVec 8))) (b : List (BitVec 8)) (hb : b.length = 16) (h1 : ks.length = 15) (h2 : ∀ k ∈ ks, k.length = 16) :
    AC Tryd.prog 118 [.ptr 0 [], .u8s b] 1 [(0, some ⟨tC, keysD ks, true⟩)] ⟨.u8s (decF ks b), [], []⟩ := by
  have hm : (ks.map D.u8s).length = 15 := by rw [List.length_map, h1]
  have hk : ∀ i, i < 15 → (ks.getD i []).length = 16 := fun i hi => h2 _ (getD_mem (by omega))
  refine ac_of tab mix Tryd.func118 rfl (by kernel_rfl) (by kernel_rfl) (by kernel_rfl) ⟨[10], []⟩ ?_
  repeat first | (refine EffG.mk (And.intro ?_ ?_); focus ((repeat' (first | exact trivial | refine And.intro ?_ ?_)) <;> (first | omega | (simp only [hasTy, okP, lenD, D.ren, D.isCell, Option.getD, List.length_set, List.length_take, List.length_drop, List.length_append, List.length_replicate, List.length_map, List.length_cons, List.length_nil, Option.map] <;> omega) | with_reducible assumption | with_reducible rfl | decide); done)) | (refine And.intro ?_ ?_; focus ((repeat' (first | exact trivial | refine And.intro ?_ ?_)) <;> (first | omega | (simp only [hasTy, okP, lenD, D.ren, D.isCell, Option.getD, List.length_set, List.length_take, List.length_drop, List.length_append, List.length_replicate, List.length_map, List.length_cons, List.length_nil, Option.map] <;> omega) | with_reducible assumption | with_reducible rfl | decide); done)) | refine chkG (by kernel_rfl) ?_
  refine Br.no rfl ?_
  repeat first | (refine EffG.mk (And.intro ?_ ?_); focus ((repeat' (first | exact trivial | refine And.intro ?_ ?_)) <;> (first | omega | (simp only [hasTy, okP, lenD, D.ren, D.isCell, Option.getD, List.length_set, List.length_take, List.length_drop, List.length_append, List.length_replicate, List.length_map, List.length_cons, List.length_nil, Option.map] <;> omega) | with_reducible assumption | with_reducible rfl | decide); done)) | (refine And.intro ?_ ?_; focus ((repeat' (first | exact trivial | refine And.intro ?_ ?_)) <;> (first | omega | (simp only [hasTy, okP, lenD, D.ren, D.isCell, Option.getD, List.length_set, List.length_take, List.length_drop, List.length_append, List.length_replicate, List.length_map, List.length_cons, List.length_nil, Option.map] <;> omega) | with_reducible assumption | with_reducible rfl | decide); done)) | refine chkG (by kernel_rfl) ?_
  refine loopG Nat (fun k => [(0, .ptr 0 []), (4, .ptr 2 []), (5, .ptr 3 []), (6, .i64 (14 - k : Nat))])
    (fun k => [(0, some ⟨tC, keysD ks, true⟩), (2, some ⟨t16, .u8s (List.replicate 16 0), true⟩), (3, some ⟨t16, .u8s (decI ks b k), true⟩)]) 4 (fun k => k ≤ 14) (fun k => 14 - k) 0 [0, 1, 2, 3] (Nat.zero_le _) ?_ ?_
  · exact viewG rfl ⟨rfl, rfl, rfl, rfl, trivial⟩ ⟨⟨_, rfl, rfl, (ren_keysD _ ks).symm, id⟩, ⟨_, rfl, rfl, rfl, id⟩, ⟨_, rfl, rfl, rfl, id⟩, trivial⟩ rfl
  intro k hk14
  have hl := decI_length ks b hb k
  repeat first | (refine EffG.mk (And.intro ?_ ?_); focus ((repeat' (first | exact trivial | refine And.intro ?_ ?_)) <;> (first | omega | (simp only [hasTy, okP, lenD, D.ren, D.isCell, Option.getD, List.length_set, List.length_take, List.length_drop, List.length_append, List.length_replicate, List.length_map, List.length_cons, List.length_nil, Option.map] <;> omega) | with_reducible assumption | with_reducible rfl | decide); done)) | (refine And.intro ?_ ?_; focus ((repeat' (first | exact trivial | refine And.intro ?_ ?_)) <;> (first | omega | (simp only [hasTy, okP, lenD, D.ren, D.isCell, Option.getD, List.length_set, List.length_take, List.length_drop, List.length_append, List.length_replicate, List.length_map, List.length_cons, List.length_nil, Option.map] <;> omega) | with_reducible assumption | with_reducible rfl | decide); done)) | refine chkG (by kernel_rfl) ?_
  refine Br.split (fun h => ?_) (fun h => ?_)
  · have hk14 : k < 14 := by have := of_decide_eq_true h; omega
    have hx := xorF_length (decI ks b k) (ks.getD (14 - k) [])
    rw [hl] at hx
    repeat first | (rw [nthD_u8s (l := ks)]; rotate_left; omega) | rw [Int.toNat_natCast (14 - k)] | (refine EffG.mk (And.intro ?_ ?_); focus ((repeat' (first | exact trivial | refine And.intro ?_ ?_)) <;> (first | omega | (simp only [hasTy, okP, lenD, D.ren, D.isCell, Option.getD, List.length_set, List.length_take, List.length_drop, List.length_append, List.length_replicate, List.length_map, List.length_cons, List.length_nil, Option.map] <;> omega) | with_reducible assumption | with_reducible rfl | decide); done)) | (refine And.intro ?_ ?_; focus ((repeat' (first | exact trivial | refine And.intro ?_ ?_)) <;> (first | omega | (simp only [hasTy, okP, lenD, D.ren, D.isCell, Option.getD, List.length_set, List.length_take, List.length_drop, List.length_append, List.length_replicate, List.length_map, List.length_cons, List.length_nil, Option.map] <;> omega) | with_reducible assumption | with_reducible rfl | decide); done)) | refine chkG (by kernel_rfl) ?_
    refine callG (xor_ac _ (ks.getD (14 - k) []) hl (hk (14 - k) (by omega))) [] rfl rfl trivial rfl rfl ?_
    repeat first | (refine EffG.mk (And.intro ?_ ?_); focus ((repeat' (first | exact trivial | refine And.intro ?_ ?_)) <;> (first | omega | (simp only [hasTy, okP, lenD, D.ren, D.isCell, Option.getD, List.length_set, List.length_take, List.length_drop, List.length_append, List.length_replicate, List.length_map, List.length_cons, List.length_nil, Option.map] <;> omega) | with_reducible assumption | with_reducible rfl | decide); done)) | (refine And.intro ?_ ?_; focus ((repeat' (first | exact trivial | refine And.intro ?_ ?_)) <;> (first | omega | (simp only [hasTy, okP, lenD, D.ren, D.isCell, Option.getD, List.length_set, List.length_take, List.length_drop, List.length_append, List.length_replicate, List.length_map, List.length_cons, List.length_nil, Option.map] <;> omega) | with_reducible assumption | with_reducible rfl | decide); done)) | refine chkG (by kernel_rfl) ?_
    refine joinG Unit (fun _ => [(0, .ptr 0 []), (4, .ptr 2 []), (5, .ptr 3 []), (6, .i64 (14 - k : Nat))])
      (fun _ => [(0, some ⟨tC, keysD ks, true⟩), (2, some ⟨t16, .u8s (List.replicate 16 0), true⟩), (3, some ⟨t16, .u8s (decT ks k (decI ks b k)), true⟩)]) 4 (fun _ => True) ?_ ?_
    · repeat first | (refine EffG.mk (And.intro ?_ ?_); focus ((repeat' (first | exact trivial | refine And.intro ?_ ?_)) <;> (first | omega | (simp only [hasTy, okP, lenD, D.ren, D.isCell, Option.getD, List.length_set, List.length_take, List.length_drop, List.length_append, List.length_replicate, List.length_map, List.length_cons, List.length_nil, Option.map] <;> omega) | with_reducible assumption | with_reducible rfl | decide); done)) | (refine And.intro ?_ ?_; focus ((repeat' (first | exact trivial | refine And.intro ?_ ?_)) <;> (first | omega | (simp only [hasTy, okP, lenD, D.ren, D.isCell, Option.getD, List.length_set, List.length_take, List.length_drop, List.length_append, List.length_replicate, List.length_map, List.length_cons, List.length_nil, Option.map] <;> omega) | with_reducible assumption | with_reducible rfl | decide); done)) | refine chkG (by kernel_rfl) ?_
      refine Br.split (fun h => ?_) (fun h => ?_)
      · have h : 14 - k < 14 := by have := of_decide_eq_true h; omega
        have hu := unmixF_length (xorF (decI ks b k) (ks.getD (14 - k) []))
        rw [hx] at hu
        repeat first | (refine EffG.mk (And.intro ?_ ?_); focus ((repeat' (first | exact trivial | refine And.intro ?_ ?_)) <;> (first | omega | (simp only [hasTy, okP, lenD, D.ren, D.isCell, Option.getD, List.length_set, List.length_take, List.length_drop, List.length_append, List.length_replicate, List.length_map, List.length_cons, List.length_nil, Option.map] <;> omega) | with_reducible assumption | with_reducible rfl | decide); done)) | (refine And.intro ?_ ?_; focus ((repeat' (first | exact trivial | refine And.intro ?_ ?_)) <;> (first | omega | (simp only [hasTy, okP, lenD, D.ren, D.isCell, Option.getD, List.length_set, List.length_take, List.length_drop, List.length_append, List.length_replicate, List.length_map, List.length_cons, List.length_nil, Option.map] <;> omega) | with_reducible assumption | with_reducible rfl | decide); done)) | refine chkG (by kernel_rfl) ?_
        refine callG (unmixed_ac _ hx) [] rfl rfl trivial rfl rfl ?_
        repeat first | (refine EffG.mk (And.intro ?_ ?_); focus ((repeat' (first | exact trivial | refine And.intro ?_ ?_)) <;> (first | omega | (simp only [hasTy, okP, lenD, D.ren, D.isCell, Option.getD, List.length_set, List.length_take, List.length_drop, List.length_append, List.length_replicate, List.length_map, List.length_cons, List.length_nil, Option.map] <;> omega) | with_reducible assumption | with_reducible rfl | decide); done)) | (refine And.intro ?_ ?_; focus ((repeat' (first | exact trivial | refine And.intro ?_ ?_)) <;> (first | omega | (simp only [hasTy, okP, lenD, D.ren, D.isCell, Option.getD, List.length_set, List.length_take, List.length_drop, List.length_append, List.length_replicate, List.length_map, List.length_cons, List.length_nil, Option.map] <;> omega) | with_reducible assumption | with_reducible rfl | decide); done)) | refine chkG (by kernel_rfl) ?_
        refine meetG () [0, 1, 2, 3] trivial ?_
        exact viewG rfl ⟨rfl, rfl, rfl, rfl, trivial⟩ ⟨⟨_, rfl, rfl, (ren_keysD _ ks).symm, id⟩, ⟨_, rfl, rfl, rfl, id⟩, ⟨_, rfl, rfl, congrArg D.u8s (if_pos h).symm, id⟩, trivial⟩ rfl
      · have h : ¬ 14 - k < 14 := by have := of_decide_eq_false h; omega
        refine meetG () [0, 1, 2, 3] trivial ?_
        exact viewG rfl ⟨rfl, rfl, rfl, rfl, trivial⟩ ⟨⟨_, rfl, rfl, (ren_keysD _ ks).symm, id⟩, ⟨_, rfl, rfl, rfl, id⟩, ⟨_, rfl, rfl, congrArg D.u8s (if_neg h).symm, id⟩, trivial⟩ rfl
    intro _ _
    have ht := decT_length ks k (decI ks b k)
    rw [hl] at ht
    have hc : decI ks b (k + 1) = usubI (decT ks k (decI ks b k)) 16 := rfl
    generalize decT ks k (decI ks b k) = t at ht hc ⊢
    repeat first | (refine EffG.mk (And.intro ?_ ?_); focus ((repeat' (first | exact trivial | refine And.intro ?_ ?_)) <;> (first | omega | (simp only [hasTy, okP, lenD, D.ren, D.isCell, Option.getD, List.length_set, List.length_take, List.length_drop, List.length_append, List.length_replicate, List.length_map, List.length_cons, List.length_nil, Option.map] <;> omega) | with_reducible assumption | with_reducible rfl | decide); done)) | (refine And.intro ?_ ?_; focus ((repeat' (first | exact trivial | refine And.intro ?_ ?_)) <;> (first | omega | (simp only [hasTy, okP, lenD, D.ren, D.isCell, Option.getD, List.length_set, List.length_take, List.length_drop, List.length_append, List.length_replicate, List.length_map, List.length_cons, List.length_nil, Option.map] <;> omega) | with_reducible assumption | with_reducible rfl | decide); done)) | refine chkG (by kernel_rfl) ?_
    refine loopG Nat (fun i => [(0, .ptr 0 []), (4, .ptr 2 []), (5, .ptr 3 []), (6, .i64 (14 - k : Nat)), (7, .ptr 4 []), (29, .i64 i)])
      (fun i => [(0, some ⟨tC, keysD ks, true⟩), (2, some ⟨t16, .u8s (List.replicate 16 0), true⟩), (3, some ⟨t16, .u8s t, true⟩), (4, some ⟨t16, .u8s (usubI t i), true⟩)]) 5 (fun i => i ≤ 16) (fun i => 16 - i) 0 [0, 1, 2, 3, 4] (Nat.zero_le _) ?_ ?_
    · exact viewG rfl ⟨rfl, rfl, rfl, rfl, rfl, rfl, trivial⟩ ⟨⟨_, rfl, rfl, (ren_keysD _ ks).symm, id⟩, ⟨_, rfl, rfl, rfl, id⟩, ⟨_, rfl, rfl, rfl, id⟩, ⟨_, rfl, rfl, rfl, id⟩, trivial⟩ rfl
    intro i hi
    have hs := usubI_length t i
    repeat first | (refine EffG.mk (And.intro ?_ ?_); focus ((repeat' (first | exact trivial | refine And.intro ?_ ?_)) <;> (first | omega | (simp only [hasTy, okP, lenD, D.ren, D.isCell, Option.getD, List.length_set, List.length_take, List.length_drop, List.length_append, List.length_replicate, List.length_map, List.length_cons, List.length_nil, Option.map] <;> omega) | with_reducible assumption | with_reducible rfl | decide); done)) | (refine And.intro ?_ ?_; focus ((repeat' (first | exact trivial | refine And.intro ?_ ?_)) <;> (first | omega | (simp only [hasTy, okP, lenD, D.ren, D.isCell, Option.getD, List.length_set, List.length_take, List.length_drop, List.length_append, List.length_replicate, List.length_map, List.length_cons, List.length_nil, Option.map] <;> omega) | with_reducible assumption | with_reducible rfl | decide); done)) | refine chkG (by kernel_rfl) ?_
    refine Br.split (fun h => ?_) (fun h => ?_)
    · have hi : i < 16 := by have := of_decide_eq_true h; omega
      have e1 : Int.tmod (i : Int) 4 = ((i % 4 : Nat) : Int) := (Int.ofNat_tmod i 4).symm
      have e2 : Int.tmod ((i : Int) + 4 * ((i % 4 : Nat) : Int)) 16 = (((i + 4 * (i % 4)) % 16 : Nat) : Int) := Int.ofNat_tmod (i + 4 * (i % 4)) 16
      repeat first | rw [e1] | rw [e2] | (refine EffG.mk (And.intro ?_ ?_); focus ((repeat' (first | exact trivial | refine And.intro ?_ ?_)) <;> (first | omega | (simp only [hasTy, okP, lenD, D.ren, D.isCell, Option.getD, List.length_set, List.length_take, List.length_drop, List.length_append, List.length_replicate, List.length_map, List.length_cons, List.length_nil, Option.map] <;> omega) | with_reducible assumption | with_reducible rfl | decide); done)) | (refine And.intro ?_ ?_; focus ((repeat' (first | exact trivial | refine And.intro ?_ ?_)) <;> (first | omega | (simp only [hasTy, okP, lenD, D.ren, D.isCell, Option.getD, List.length_set, List.length_take, List.length_drop, List.length_append, List.length_replicate, List.length_map, List.length_cons, List.length_nil, Option.map] <;> omega) | with_reducible assumption | with_reducible rfl | decide); done)) | refine chkG (by kernel_rfl) ?_
      refine callG unbox_ac [] rfl rfl trivial rfl rfl ?_
      repeat first | rw [e1] | rw [e2] | refine EffG.mk (And.intro (byte_ix _ unboxL unboxL_length) ?_) | (refine EffG.mk (And.intro ?_ ?_); focus ((repeat' (first | exact trivial | refine And.intro ?_ ?_)) <;> (first | omega | (simp only [hasTy, okP, lenD, D.ren, D.isCell, Option.getD, List.length_set, List.length_take, List.length_drop, List.length_append, List.length_replicate, List.length_map, List.length_cons, List.length_nil, Option.map] <;> omega) | with_reducible assumption | with_reducible rfl | decide); done)) | (refine And.intro ?_ ?_; focus ((repeat' (first | exact trivial | refine And.intro ?_ ?_)) <;> (first | omega | (simp only [hasTy, okP, lenD, D.ren, D.isCell, Option.getD, List.length_set, List.length_take, List.length_drop, List.length_append, List.length_replicate, List.length_map, List.length_cons, List.length_nil, Option.map] <;> omega) | with_reducible assumption | with_reducible rfl | decide); done)) | refine chkG (by kernel_rfl) ?_
      refine nextG (i + 1) [0, 1, 2, 3, 4] ?_ ?_ ?_
      · omega
      · omega
      · exact viewG rfl ⟨rfl, rfl, rfl, rfl, rfl, rfl, trivial⟩ ⟨⟨_, rfl, rfl, (ren_keysD _ ks).symm, id⟩, ⟨_, rfl, rfl, rfl, id⟩, ⟨_, rfl, rfl, rfl, id⟩, ⟨_, rfl, rfl, rfl, id⟩, trivial⟩ rfl
    · have hi : i = 16 := by have := of_decide_eq_false h; omega
      subst hi
      repeat first | (refine EffG.mk (And.intro ?_ ?_); focus ((repeat' (first | exact trivial | refine And.intro ?_ ?_)) <;> (first | omega | (simp only [hasTy, okP, lenD, D.ren, D.isCell, Option.getD, List.length_set, List.length_take, List.length_drop, List.length_append, List.length_replicate, List.length_map, List.length_cons, List.length_nil, Option.map] <;> omega) | with_reducible assumption | with_reducible rfl | decide); done)) | (refine And.intro ?_ ?_; focus ((repeat' (first | exact trivial | refine And.intro ?_ ?_)) <;> (first | omega | (simp only [hasTy, okP, lenD, D.ren, D.isCell, Option.getD, List.length_set, List.length_take, List.length_drop, List.length_append, List.length_replicate, List.length_map, List.length_cons, List.length_nil, Option.map] <;> omega) | with_reducible assumption | with_reducible rfl | decide); done)) | refine chkG (by kernel_rfl) ?_
      refine nextG (k + 1) [0, 1, 2, 3] ?_ ?_ ?_
      · omega
      · omega
      · exact viewG rfl ⟨rfl, rfl, rfl, congrArg (fun x => some (D.i64 x)) (by omega), trivial⟩ ⟨⟨_, rfl, rfl, (ren_keysD _ ks).symm, id⟩, ⟨_, rfl, rfl, rfl, id⟩, ⟨_, rfl, rfl, congrArg D.u8s hc.symm, id⟩, trivial⟩ rfl
  · have hk14 : k = 14 := by have := of_decide_eq_false h; omega
    subst hk14
    have hx := xorF_length (decI ks b 14) (ks.getD 0 [])
    rw [hl] at hx
    repeat first | (rw [nthD_u8s (l := ks)]; rotate_left; omega) | (refine EffG.mk (And.intro ?_ ?_); focus ((repeat' (first | exact trivial | refine And.intro ?_ ?_)) <;> (first | omega | (simp only [hasTy, okP, lenD, D.ren, D.isCell, Option.getD, List.length_set, List.length_take, List.length_drop, List.length_append, List.length_replicate, List.length_map, List.length_cons, List.length_nil, Option.map] <;> omega) | with_reducible assumption | with_reducible rfl | decide); done)) | (refine And.intro ?_ ?_; focus ((repeat' (first | exact trivial | refine And.intro ?_ ?_)) <;> (first | omega | (simp only [hasTy, okP, lenD, D.ren, D.isCell, Option.getD, List.length_set, List.length_take, List.length_drop, List.length_append, List.length_replicate, List.length_map, List.length_cons, List.length_nil, Option.map] <;> omega) | with_reducible assumption | with_reducible rfl | decide); done)) | refine chkG (by kernel_rfl) ?_
    refine callG (xor_ac _ (ks.getD 0 []) hl (hk 0 (by omega))) [] rfl rfl trivial rfl rfl ?_
    repeat first | (refine EffG.mk (And.intro ?_ ?_); focus ((repeat' (first | exact trivial | refine And.intro ?_ ?_)) <;> (first | omega | (simp only [hasTy, okP, lenD, D.ren, D.isCell, Option.getD, List.length_set, List.length_take, List.length_drop, List.length_append, List.length_replicate, List.length_map, List.length_cons, List.length_nil, Option.map] <;> omega) | with_reducible assumption | with_reducible rfl | decide); done)) | (refine And.intro ?_ ?_; focus ((repeat' (first | exact trivial | refine And.intro ?_ ?_)) <;> (first | omega | (simp only [hasTy, okP, lenD, D.ren, D.isCell, Option.getD, List.length_set, List.length_take, List.length_drop, List.length_append, List.length_replicate, List.length_map, List.length_cons, List.length_nil, Option.map] <;> omega) | with_reducible assumption | with_reducible rfl | decide); done)) | refine chkG (by kernel_rfl) ?_
    refine retG [0] rfl rfl ⟨⟨_, rfl, rfl, (ren_keysD _ ks).symm, id⟩, trivial⟩ rfl
end Go.Proofs.YtodkhgofmgaafaaDoor.Av

namespace Go.Proofs.YtodkhgofmgaafaaDoor.Av
open Go
set_option linter.all false
set_option maxRecDepth 3000

/-! what is encrypted is decrypted to what it was, with no program in sight -/

theorem box_back (b : BitVec 8) : usboxF (sboxF b) = b ∧ sboxF (usboxF b) = b :=
  byte_nat (p := fun b => usboxF (sboxF b) = b ∧ sboxF (usboxF b) = b) (by decide +kernel) b

theorem high_bit (a : BitVec 8) : a &&& 128 = 0 ∨ a &&& 128 = 128 := byte_nat (p := fun a => a &&& 128 = 0 ∨ a &&& 128 = 128) (by decide +kernel) a

theorem xor_lc (a b c : BitVec 8) : a ^^^ (b ^^^ c) = b ^^^ (a ^^^ c) := by rw [← BitVec.xor_assoc, BitVec.xor_comm a b, BitVec.xor_assoc]
theorem xor_cancel (a b : BitVec 8) : a ^^^ (a ^^^ b) = b := by rw [← BitVec.xor_assoc, BitVec.xor_self, BitVec.zero_xor]
theorem and_xor (a b c : BitVec 8) : (a ^^^ b) &&& c = (a &&& c) ^^^ (b &&& c) := by
  apply BitVec.eq_of_getLsbD_eq
  intro i hi
  simp only [BitVec.getLsbD_and, BitVec.getLsbD_xor]
  cases a.getLsbD i <;> cases b.getLsbD i <;> cases c.getLsbD i <;> rfl
theorem shiftF_xor (a b : BitVec 8) : shiftF (a ^^^ b) = shiftF a ^^^ shiftF b := by
  unfold shiftF
  have e : (a ^^^ b) &&& 128 = (a &&& 128) ^^^ (b &&& 128) := and_xor a b 128
  rw [e, BitVec.shiftLeft_xor_distrib]
  rcases high_bit a with ha | ha <;> rcases high_bit b with hb | hb <;> rw [ha, hb]
  · simp
  · simp [BitVec.xor_assoc]
  · simp only [BitVec.xor_assoc, BitVec.xor_comm, xor_lc, if_true]; simp [BitVec.xor_assoc, BitVec.xor_comm, xor_lc]
  · simp [BitVec.xor_assoc, BitVec.xor_comm, xor_lc, xor_cancel]

theorem list16 {α : Type} (l : List α) (h : l.length = 16) : ∃ a0 a1 a2 a3 a4 a5 a6 a7 a8 a9 a10 a11 a12 a13 a14 a15, l = [a0, a1, a2, a3, a4, a5, a6, a7, a8, a9, a10, a11, a12, a13, a14, a15] := by
  match l, h with
  | [a0, a1, a2, a3, a4, a5, a6, a7, a8, a9, a10, a11, a12, a13, a14, a15], _ => exact ⟨a0, a1, a2, a3, a4, a5, a6, a7, a8, a9, a10, a11, a12, a13, a14, a15, rfl⟩

def mcF (f : BitVec 8 → BitVec 8) (a b c d : BitVec 8) : List (BitVec 8) :=
  [a ^^^ (a ^^^ b ^^^ c ^^^ d ^^^ f (a ^^^ b)), b ^^^ (a ^^^ b ^^^ c ^^^ d ^^^ f (b ^^^ c)), c ^^^ (a ^^^ b ^^^ c ^^^ d ^^^ f (c ^^^ d)), d ^^^ (a ^^^ b ^^^ c ^^^ d ^^^ f (d ^^^ a))]
def pcF (f : BitVec 8 → BitVec 8) (a b c d : BitVec 8) : List (BitVec 8) :=
  [a ^^^ f (f (a ^^^ c)), b ^^^ f (f (b ^^^ d)), c ^^^ f (f (a ^^^ c)), d ^^^ f (f (b ^^^ d))]

theorem mixF_list (a0 a1 a2 a3 a4 a5 a6 a7 a8 a9 a10 a11 a12 a13 a14 a15 : BitVec 8) : mixF [a0, a1, a2, a3, a4, a5, a6, a7, a8, a9, a10, a11, a12, a13, a14, a15] =
    mcF shiftF a0 a1 a2 a3 ++ mcF shiftF a4 a5 a6 a7 ++ mcF shiftF a8 a9 a10 a11 ++ mcF shiftF a12 a13 a14 a15 := by
  kernel_rfl
theorem preI_list (a0 a1 a2 a3 a4 a5 a6 a7 a8 a9 a10 a11 a12 a13 a14 a15 : BitVec 8) : preI [a0, a1, a2, a3, a4, a5, a6, a7, a8, a9, a10, a11, a12, a13, a14, a15] 4 =
    pcF shiftF a0 a1 a2 a3 ++ pcF shiftF a4 a5 a6 a7 ++ pcF shiftF a8 a9 a10 a11 ++ pcF shiftF a12 a13 a14 a15 := by
  kernel_rfl
def ap4 (g : BitVec 8 → BitVec 8 → BitVec 8 → BitVec 8 → List (BitVec 8)) : List (BitVec 8) → List (BitVec 8)
  | [a, b, c, d] => g a b c d
  | _ => []

theorem list4 {a b c d a' b' c' d' : BitVec 8} (h0 : a = a') (h1 : b = b') (h2 : c = c') (h3 : d = d') : [a, b, c, d] = [a', b', c', d'] := by rw [h0, h1, h2, h3]
/-- one line of mixed twice -/
theorem mc_line (f : BitVec 8 → BitVec 8) (hf : ∀ x y, f (x ^^^ y) = f x ^^^ f y) (a b c d : BitVec 8) (m0 m1 m2 m3 : BitVec 8) (h0 : m0 = b ^^^ (c ^^^ (d ^^^ (f a ^^^ f b)))) (h1 : m1 = a ^^^ (c ^^^ (d ^^^ (f b ^^^ f c))))
    (h2 : m2 = a ^^^ (b ^^^ (d ^^^ (f c ^^^ f d)))) (h3 : m3 = a ^^^ (b ^^^ (c ^^^ (f d ^^^ f a)))) : m0 ^^^ (m0 ^^^ m1 ^^^ m2 ^^^ m3 ^^^ f (m0 ^^^ m1)) = a ^^^ f (f (a ^^^ c)) := by
  have e1 : m0 ^^^ m1 = a ^^^ (b ^^^ (f a ^^^ f c)) := by
    rw [h0, h1]
    simp only [BitVec.xor_assoc, BitVec.xor_comm, xor_lc, xor_cancel]
  have e2 : m0 ^^^ (m0 ^^^ m1 ^^^ m2 ^^^ m3 ^^^ f (m0 ^^^ m1)) = m1 ^^^ (m2 ^^^ (m3 ^^^ f (m0 ^^^ m1))) := by
    simp only [BitVec.xor_assoc, xor_cancel]
  rw [e2, e1, hf a, hf b, hf (f a), hf a c, hf (f a), h1, h2, h3]
  simp only [BitVec.xor_assoc, BitVec.xor_comm, xor_lc, xor_cancel, BitVec.xor_self, BitVec.xor_zero]
theorem mc_mc (f : BitVec 8 → BitVec 8) (hf : ∀ x y, f (x ^^^ y) = f x ^^^ f y) (a b c d : BitVec 8) : ap4 (mcF f) (mcF f a b c d) = pcF f a b c d := by
  have l0 : a ^^^ (a ^^^ b ^^^ c ^^^ d ^^^ f (a ^^^ b)) = b ^^^ (c ^^^ (d ^^^ (f a ^^^ f b))) := by
    rw [hf]; simp only [BitVec.xor_assoc, BitVec.xor_comm, xor_lc, xor_cancel]
  have l1 : b ^^^ (a ^^^ b ^^^ c ^^^ d ^^^ f (b ^^^ c)) = a ^^^ (c ^^^ (d ^^^ (f b ^^^ f c))) := by
    rw [hf]; simp only [BitVec.xor_assoc, BitVec.xor_comm, xor_lc, xor_cancel]
  have l2 : c ^^^ (a ^^^ b ^^^ c ^^^ d ^^^ f (c ^^^ d)) = a ^^^ (b ^^^ (d ^^^ (f c ^^^ f d))) := by
    rw [hf]; simp only [BitVec.xor_assoc, BitVec.xor_comm, xor_lc, xor_cancel]
  have l3 : d ^^^ (a ^^^ b ^^^ c ^^^ d ^^^ f (d ^^^ a)) = a ^^^ (b ^^^ (c ^^^ (f d ^^^ f a))) := by
    rw [hf]; simp only [BitVec.xor_assoc, BitVec.xor_comm, xor_lc, xor_cancel]
  show mcF f _ _ _ _ = _
  revert l0 l1 l2 l3
  generalize a ^^^ (a ^^^ b ^^^ c ^^^ d ^^^ f (a ^^^ b)) = m0
  generalize b ^^^ (a ^^^ b ^^^ c ^^^ d ^^^ f (b ^^^ c)) = m1
  generalize c ^^^ (a ^^^ b ^^^ c ^^^ d ^^^ f (c ^^^ d)) = m2
  generalize d ^^^ (a ^^^ b ^^^ c ^^^ d ^^^ f (d ^^^ a)) = m3
  intro l0 l1 l2 l3
  have ac : ∀ x y z w : BitVec 8, x ^^^ (y ^^^ (z ^^^ w)) = y ^^^ (z ^^^ (x ^^^ w)) := fun x y z w => by simp only [BitVec.xor_comm, xor_lc]
  have r1 : m0 ^^^ m1 ^^^ m2 ^^^ m3 = m1 ^^^ m2 ^^^ m3 ^^^ m0 := by simp only [BitVec.xor_assoc, BitVec.xor_comm, xor_lc]
  have r2 : m0 ^^^ m1 ^^^ m2 ^^^ m3 = m2 ^^^ m3 ^^^ m0 ^^^ m1 := by simp only [BitVec.xor_assoc, BitVec.xor_comm, xor_lc]
  have r3 : m0 ^^^ m1 ^^^ m2 ^^^ m3 = m3 ^^^ m0 ^^^ m1 ^^^ m2 := by simp only [BitVec.xor_assoc, BitVec.xor_comm, xor_lc]
  refine list4 ?_ ?_ ?_ ?_
  · exact mc_line f hf a b c d m0 m1 m2 m3 l0 l1 l2 l3
  · rw [r1]
    exact mc_line f hf b c d a m1 m2 m3 m0 (by rw [l1]; simp only [BitVec.xor_comm, xor_lc]) (by rw [l2]; simp only [BitVec.xor_comm, xor_lc]) (by rw [l3]; simp only [BitVec.xor_comm, xor_lc]) (by rw [l0])
  · rw [r2, BitVec.xor_comm a c]
    exact mc_line f hf c d a b m2 m3 m0 m1 (by rw [l2]; simp only [BitVec.xor_comm, xor_lc]) (by rw [l3]; simp only [BitVec.xor_comm, xor_lc]) (by rw [l0]; simp only [BitVec.xor_comm, xor_lc]) (by rw [l1]; simp only [BitVec.xor_comm, xor_lc])
  · rw [r3, BitVec.xor_comm b d]
    exact mc_line f hf d a b c m3 m0 m1 m2 (by rw [l3]) (by rw [l0]; simp only [BitVec.xor_comm, xor_lc]) (by rw [l1]; simp only [BitVec.xor_comm, xor_lc]) (by rw [l2]; simp only [BitVec.xor_comm, xor_lc])

theorem pc_pc (f : BitVec 8 → BitVec 8) (hf : ∀ x y, f (x ^^^ y) = f x ^^^ f y) (a b c d : BitVec 8) : ap4 (pcF f) (pcF f a b c d) = [a, b, c, d] := by
  have e : ∀ x y z : BitVec 8, (x ^^^ z) ^^^ (y ^^^ z) = x ^^^ y := fun x y z => by simp only [BitVec.xor_assoc, BitVec.xor_comm, xor_lc, BitVec.xor_self, BitVec.xor_zero]
  have r : ∀ x y : BitVec 8, (x ^^^ y) ^^^ y = x := fun x y => by simp only [BitVec.xor_assoc, BitVec.xor_self, BitVec.xor_zero]
  show pcF f _ _ _ _ = _
  unfold pcF
  rw [e, e, r, r, r, r]

theorem ap4_four {g h : BitVec 8 → BitVec 8 → BitVec 8 → BitVec 8 → List (BitVec 8)} {l : List (BitVec 8)} (hl : l.length = 4) (e : ∀ a b c d, g a b c d = h a b c d) : ap4 g l = ap4 h l := by
  match l, hl with
  | [a, b, c, d], _ => exact e a b c d

theorem col_back (f : BitVec 8 → BitVec 8) (hf : ∀ x y, f (x ^^^ y) = f x ^^^ f y) (a b c d : BitVec 8) : ap4 (mcF f) (ap4 (pcF f) (mcF f a b c d)) = [a, b, c, d] := by
  have h1 : ap4 (pcF f) (mcF f a b c d) = ap4 (fun a b c d => ap4 (mcF f) (mcF f a b c d)) (mcF f a b c d) := ap4_four rfl (fun a b c d => (mc_mc f hf a b c d).symm)
  have h2 : ap4 (fun a b c d => ap4 (mcF f) (mcF f a b c d)) (mcF f a b c d) = ap4 (mcF f) (pcF f a b c d) := congrArg (ap4 (mcF f)) (mc_mc f hf a b c d)
  rw [h1, h2]
  have h3 : ap4 (mcF f) (ap4 (mcF f) (pcF f a b c d)) = ap4 (pcF f) (pcF f a b c d) := mc_mc f hf _ _ _ _
  rw [h3, pc_pc f hf]
theorem four {l0 l1 l2 l3 r0 r1 r2 r3 : List (BitVec 8)} (h0 : l0 = r0) (h1 : l1 = r1) (h2 : l2 = r2) (h3 : l3 = r3) : l0 ++ l1 ++ l2 ++ l3 = r0 ++ r1 ++ r2 ++ r3 := by rw [h0, h1, h2, h3]

theorem unmix_mix (s : List (BitVec 8)) (hs : s.length = 16) : unmixF (mixF s) = s := by
  obtain ⟨a0, a1, a2, a3, a4, a5, a6, a7, a8, a9, a10, a11, a12, a13, a14, a15, rfl⟩ := list16 s hs
  rw [mixF_list]
  simp only [mcF, List.cons_append, List.nil_append]
  unfold unmixF
  rw [preI_list]
  simp only [pcF, List.cons_append, List.nil_append]
  rw [mixF_list]
  exact four (col_back shiftF shiftF_xor a0 a1 a2 a3) (col_back shiftF shiftF_xor a4 a5 a6 a7) (col_back shiftF shiftF_xor a8 a9 a10 a11) (col_back shiftF shiftF_xor a12 a13 a14 a15)

theorem ext16 {l r : List (BitVec 8)} (h1 : l.length = 16) (h2 : r.length = 16) (hi : ∀ i, i < 16 → l.getD i 0 = r.getD i 0) : l = r := by
  refine List.ext_getElem (h1.trans h2.symm) fun i q1 q2 => ?_
  have := hi i (by omega)
  rwa [List.getD_eq_getElem?_getD, List.getD_eq_getElem?_getD, List.getElem?_eq_getElem q1, List.getElem?_eq_getElem q2] at this

theorem xorI_at (s k : List (BitVec 8)) (hs : s.length = 16) : ∀ n, n ≤ 16 → ∀ i, (xorI s k n).getD i 0 = if i < n then s.getD i 0 ^^^ k.getD i 0 else s.getD i 0
  | 0, _, i => by simp [xorI]
  | n + 1, hn, i => by
    rw [xorI, getD_set (by rw [xorI_length, hs]; omega)]
    by_cases h : i = n
    · subst h
      rw [if_pos rfl, xorI_at s k hs i (by omega) i, if_neg (Nat.lt_irrefl _), if_pos (Nat.lt_succ_self _)]
    · rw [if_neg h, xorI_at s k hs n (by omega) i]
      by_cases h2 : i < n
      · rw [if_pos h2, if_pos (by omega)]
      · rw [if_neg h2, if_neg (by omega)]
theorem xorF_at (s k : List (BitVec 8)) (hs : s.length = 16) (i : Nat) (hi : i < 16) : (xorF s k).getD i 0 = s.getD i 0 ^^^ k.getD i 0 := by
  rw [xorF, xorI_at s k hs 16 (Nat.le_refl _) i, if_pos hi]
theorem xor_xor (s k : List (BitVec 8)) (hs : s.length = 16) : xorF (xorF s k) k = s := by
  have h1 : (xorF s k).length = 16 := by rw [xorF_length, hs]
  refine ext16 (by rw [xorF_length, h1]) hs fun i hi => ?_
  rw [xorF_at _ k h1 i hi, xorF_at s k hs i hi, BitVec.xor_assoc, BitVec.xor_self, BitVec.xor_zero]

def sg (i : Nat) : Nat := (i + 4 * (i % 4)) % 16
theorem sg_inj : ∀ i, i < 16 → ∀ j, j < 16 → sg i = sg j → i = j := by decide
theorem sg_onto : ∀ i, i < 16 → ∃ j, j < 16 ∧ sg j = i := by decide
theorem sg_lt (i : Nat) : sg i < 16 := Nat.mod_lt _ (by decide)

theorem subI_at (s : List (BitVec 8)) : ∀ n, n ≤ 16 → ∀ i, i < n → (subI s n).getD i 0 = sboxF (s.getD (sg i) 0)
  | 0, _, i, hi => by omega
  | n + 1, hn, i, hi => by
    rw [subI, getD_set (by rw [subI_length]; omega)]
    by_cases h : i = n
    · subst h; rw [if_pos rfl]; rfl
    · rw [if_neg h]
      exact subI_at s n (by omega) i (by omega)
theorem usubI_at (s : List (BitVec 8)) : ∀ n, n ≤ 16 → ∀ i, i < n → (usubI s n).getD (sg i) 0 = usboxF (s.getD i 0)
  | 0, _, i, hi => by omega
  | n + 1, hn, i, hi => by
    rw [usubI, show (n + 4 * (n % 4)) % 16 = sg n from rfl, getD_set (by rw [usubI_length]; exact sg_lt n)]
    by_cases h : i = n
    · subst h; rw [if_pos rfl]
    · rw [if_neg (fun e => h (sg_inj i (by omega) n (by omega) e))]
      exact usubI_at s n (by omega) i (by omega)
theorem usub_sub (s : List (BitVec 8)) (hs : s.length = 16) : usubI (subI s 16) 16 = s := by
  refine ext16 (usubI_length _ _) hs fun i hi => ?_
  obtain ⟨j, hj, rfl⟩ := sg_onto i hi
  rw [usubI_at _ 16 (Nat.le_refl _) j hj, subI_at _ 16 (Nat.le_refl _) j hj, (box_back _).1]
theorem dec_enc (ks : List (List (BitVec 8))) (a : List (BitVec 8)) (ha : a.length = 16) : decF ks (encI ks a 14) = a := by
  have key : ∀ k, k ≤ 14 → decI ks (encI ks a 14) k = encI ks a (14 - k) := by
    intro k
    induction k with
    | zero => intro _; rfl
    | succ k ih =>
      intro hk
      have hl := encI_length ks a ha (14 - (k + 1))
      rw [decI, ih (by omega)]
      have e : 14 - k = 14 - (k + 1) + 1 := by omega
      have e2 : encI ks a (14 - k) = xorF (if 14 - k < 14 then mixF (subI (encI ks a (14 - (k + 1))) 16) else subI (encI ks a (14 - (k + 1))) 16) (ks.getD (14 - k) []) := by
        rw [e]; rfl
      unfold decT
      rw [e2]
      by_cases h : 14 - k < 14
      · simp only [if_pos h]
        rw [xor_xor _ _ (by rw [mixF_length, subI_length]), unmix_mix _ (subI_length _ _), usub_sub _ hl]
      · simp only [if_neg h]
        rw [xor_xor _ _ (subI_length _ _), usub_sub _ hl]
  rw [decF, key 14 (Nat.le_refl _)]
  exact xor_xor a _ ha

end Go.Proofs.YtodkhgofmgaafaaDoor.Av

namespace Go.Proofs.YtodkhgofmgaafaaDoor.Av
open Go
set_option linter.all false
set_option maxRecDepth 3000

/-! what a mask does -/
end Go.Proofs.YtodkhgofmgaafaaDoor.Av

namespace Go.Proofs.YtodkhgofmgaafaaDoor.Av
open Go
set_option linter.all false
set_option maxRecDepth 3000

end Go.Proofs.YtodkhgofmgaafaaDoor.Av

namespace Go.Proofs.YtodkhgofmgaafaaDoor.Av
open Go Go.RowKit Go.Shelf
set_option linter.all false
set_option maxRecDepth 3000

attribute [local go_sem] Oper.semAt_some

set_option maxRecDepth 100000 in
set_option maxHeartbeats 1000000 in
/-- the sectors that bytes touch, one after another -/
theorem sectors1_in (F : Fence) (n : Nat) (hF : F.fn 158) (hn : F.depth.isSome = true → 1 ≤ n) (hro : F.round = none) (l b1 o1 b2 o2 : Nat) (at_ k q c K : Nat) (hq : 512 * q ≤ at_) (hq2 : at_ < 512 * q + 512)
    (hc : c = if k = 0 then 0 else (at_ + k + 511) / 512 - q) (hK : q + c ≤ K) (hb : at_ + k + 512 < 9223372036854775808) {Kp : World → World → Prop}
    {A1 A2 : World → Prop} (r1 : ∀ A, A1 A → A.cell? ⟨b1, o1, none⟩ = some (.int .i64 at_)) (r2 : ∀ A, A2 A → A.cell? ⟨b2, o2, none⟩ = some (.int .i64 k)) (h1 : ∀ A B, Kp A B → A1 A → A1 B) (h2 : ∀ A B, Kp A B → A2 A → A2 B)
    (J Jx : List (Fin K) → World → Prop)
    (hY : ∀ pre (x : Fin K) W, J pre W → pre.length < c → YieldAt F (n - 1) Tryd.prog l #[.int .i64 ((512 * x.val : Nat) : Int)] W fun e W' =>
      (e = .returned (.bool true) ∧ J (pre ++ [x]) W' ∧ Kp W W') ∨ (e = .returned (.bool false) ∧ Jx (pre ++ [x]) W'))
    (W : World) (ha1 : A1 W) (ha2 : A2 W) (h0 : J [] W) :
    CallsIn F n Tryd.prog 158 #[.func (.yield l) #[] #[], .pointer (some ⟨b1, o1, none⟩), .pointer (some ⟨b2, o2, none⟩)] W fun e W' => (∃ v, e = .returned v) ∧
      ((∃ ys, ys.map (·.val) = List.range' q c ∧ J ys W') ∨ (∃ pre, True ∧ Jx pre W')) := by
  have hc1 := r1 _ ha1
  have hc2 := r2 _ ha2
  refine callsIn_of_wp Tryd.func158 rfl hF ?_ hro
  simp only [Tryd.ntmps158, List.size_toArray, List.length_cons, List.length_nil, Nat.reduceAdd, Nat.reduceSub, Array.replicate_succ, Array.replicate_zero, List.push_toArray, List.append_toArray, List.nil_append, List.cons_append]
  gi_wp2
  have hi : ∀ i : Nat, ((512 * (q + i) : Nat) : Int) + 512 = ((512 * (q + (i + 1)) : Nat) : Int) := fun i => by omega
  gi_loopw [4] (fun s wr => ∃ (pre : List (Fin K)), s = .int .i64 ((512 * (q + pre.length) : Nat) : Int) ∧ pre.map (·.val) = List.range' q pre.length ∧ pre.length ≤ c ∧ J pre wr ∧ A1 wr ∧ A2 wr)
    (fun s _ => match s with | .int _ s => (512 * (q + c) - s).toNat | _ => 0)
  case atStart =>
    refine ⟨[], ?_, rfl, by simp, h0, ha1, ha2⟩
    simp only [List.length_nil, Nat.add_zero]
    congr 1
    omega
  case round =>
    obtain ⟨pre, rfl, hp, hle, hJ, hA1, hA2⟩ := hrel
    have hd1 := r1 _ hA1
    have hd2 := r2 _ hA2
    by_cases hlt : pre.length < c
    · have hk0 : 0 < k := Nat.pos_of_ne_zero (fun h => by rw [if_pos h] at hc; omega)
      have hcc : c = (at_ + k + 511) / 512 - q := by rw [hc, if_neg (by omega)]
      obtain ⟨fn, tmps, assign, body, hy, hR⟩ := hY pre ⟨q + pre.length, by omega⟩ wr hJ hlt
      push_cast at hy
      gi_wp2
      refine ⟨hn, hR.mono ?_⟩
      rintro e W3 (⟨rfl, hJ3, hk3⟩ | ⟨rfl, hJx3⟩)
      · have hA13 := h1 _ _ hk3 hA1
        have hA23 := h2 _ _ hk3 hA2
        have hd13 := r1 _ hA13
        have hd23 := r2 _ hA23
        gi_wp2
        go_roundw
        case rel =>
          refine ⟨pre ++ [⟨q + pre.length, by omega⟩], ?_, ?_, by simp; omega, hJ3, hA13, hA23⟩
          · congr 1; simp; omega
          · simp only [List.map_append, hp, List.length_append, List.length_cons, List.length_nil, Nat.zero_add]
            rw [List.range'_1_concat]; rfl
        case measure => simp; omega
      · gi_wp2
        refine bodyPost_ret (results_none rfl _ _ _) rfl ?_
        exact ⟨⟨_, rfl⟩, .inr ⟨pre ++ [⟨q + pre.length, by omega⟩], trivial, hJx3⟩⟩
    · have he : pre.length = c := by omega
      have hp' : pre.map (·.val) = List.range' q c := he ▸ hp
      by_cases hk0 : k = 0
      · have hz : pre = [] := List.length_eq_zero_iff.1 (by rw [he, hc, if_pos hk0])
        rw [hz] at hJ
        subst hk0
        gi_wp2
        go_end0
        exact ⟨⟨_, rfl⟩, .inl hJ⟩
      · have hcc : c = (at_ + k + 511) / 512 - q := by rw [hc, if_neg (by omega)]
        have hkp : 0 < k := by omega
        gi_wp2
        go_end0
        exact ⟨⟨_, rfl⟩, .inl ⟨_, hp', hJ⟩⟩

/-- the cell that a captured number lies in -/
theorem satX_cell {ρ : Env} {rw : Bool} {n : Int} {L : Loc} {w : World} (h : SatX ρ ⟨.cell, .i64 n, rw⟩ L w) : L.ty = .cell ∧ L.blk < w.heap.size ∧ w.cell? ⟨L.blk, L.base, none⟩ = some (.int .i64 n) := by
  obtain ⟨ρ', hle, hs⟩ := h
  obtain ⟨_, vs, hv, hr⟩ := hs.read (p := []) (T := .cell) (x := .i64 n) rfl trivial rfl
  match vs, hv with
  | [v], ⟨hv, _⟩ =>
    have e := hr 0 v rfl
    obtain ⟨rfl, _⟩ : v = .int .i64 n ∧ _ := hv
    have ho : offAt L.ty [] = 0 := rfl
    exact ⟨hs.ty, hs.lt, by rw [ho] at e; exact e⟩
theorem satX_below {ρ : Env} {e : Ent} {L : Loc} {w W : World} (h : SatX ρ e L w) (hb : Below w.heap.size w W) : SatX ρ e L W := by
  obtain ⟨ρ', hle, hs⟩ := h
  exact ⟨ρ', hle, hs.same (hb.block _ hs.lt)⟩

theorem sectors1_gen (b1 b2 at_ k q c K : Nat) {rw1 rw2 : Bool} (hq : 512 * q ≤ at_) (hq2 : at_ < 512 * q + 512) (hc : c = if k = 0 then 0 else (at_ + k + 511) / 512 - q) (hK : q + c ≤ K) (hb : at_ + k + 512 < 9223372036854775808) (hK2 : 512 * K < 9223372036854775808) :
    GenC Tryd.prog 158 [.ptr b1 [], .ptr b2 []] [(b1, ⟨.cell, .i64 at_, rw1⟩), (b2, ⟨.cell, .i64 k, rw2⟩)] (fun x : Fin K => .i64 (512 * x.val : Nat)) (fun ys => ys.map (·.val) = List.range' q c) c := by
  refine ⟨⟨_, Tryd.func158, rfl, rfl⟩, fun ρ lb w n hl hE => ?_⟩
  obtain ⟨L1, e1, s1⟩ := hE _ (.head _)
  obtain ⟨L2, e2, s2⟩ := hE _ (.tail _ (.head _))
  match lb, hl with
  | [v1, v2], ⟨h1, h2, _⟩ =>
    obtain ⟨L1', g1, rfl⟩ := h1
    obtain ⟨L2', g2, rfl⟩ := h2
    cases e1.symm.trans g1
    cases e2.symm.trans g2
    refine ⟨fun x => .int .i64 (512 * x.val : Nat), fun x => ⟨rfl, by omega, by have := x.isLt; omega⟩, fun l J Jx W hW _ _ hY h0 => ?_⟩
    have k1 := satX_cell s1
    have k2 := satX_cell s2
    exact sectors1_in (FW none) n trivial (fun h => by cases h) rfl l L1.blk L1.base L2.blk L2.base at_ k q c K hq hq2 hc hK hb (Kp := KpE ρ _) (A1 := SatX ρ ⟨.cell, .i64 at_, rw1⟩ L1) (A2 := SatX ρ ⟨.cell, .i64 k, rw2⟩ L2)
      (fun A hA => (satX_cell hA).2.2) (fun A hA => (satX_cell hA).2.2) (fun A B hk hA => hk _ (.head _) L1 e1 hA) (fun A B hk hA => hk _ (.tail _ (.head _)) L2 e2 hA) J Jx
      hY W (satX_below s1 hW) (satX_below s2 hW) h0
end Go.Proofs.YtodkhgofmgaafaaDoor.Av

namespace Go.Proofs.YtodkhgofmgaafaaDoor.Av
open Go
set_option linter.all false
set_option maxRecDepth 3000

abbrev tDv : Ty := .st [.cell, .cell, .cell, .cell, .cell, .cell, .cell]
abbrev tLo : Ty := .st [.cell, .cell, .arr 512 .cell]

/-- bytes laid over others -/
def layF (S B : List (BitVec 8)) (p : Nat) : List (BitVec 8) := S.take p ++ B ++ S.drop (p + B.length)
theorem layF_length {S B : List (BitVec 8)} {p : Nat} (h : p + B.length ≤ S.length) : (layF S B p).length = S.length := by
  simp [layF]; omega

theorem dnew_ac (k : Int) : AC Tryd.prog 72 [.i64 k] 0 [] ⟨.ptr 0 [], [], [(tDv, .node [.i64 (max 0 (min k 16777216)), .nilslice, .nilslice, .nilslice, .i64 0, .bool false, .nilptr])]⟩ := by
  refine acA tab mix Tryd.func72 {} ?_
  repeat first | refine EffG.mk (obA ?_) | refine obA ?_ | refine chkA ?_ | refine brY ?_ | refine brN ?_
  refine retA [0]

theorem lay_ac (S B : List (BitVec 8)) (p o k N : Nat) (cap cap2 : Option Nat) (hN : S.length = N) (h : p + k ≤ N) (hB : o + k ≤ B.length) (h0 : 0 < k) (hS : N < 4611686018427387904) :
    AC Tryd.prog 87 [.slice 0 [] 0 N cap, .i64 p, .slice 1 [] o k cap2] 2 [(0, some ⟨.row .cell, .u8s S, true⟩), (1, some ⟨.row .cell, .u8s B, false⟩)] ⟨.slice 0 [] 0 N cap, [(0, some (.u8s (layF S ((B.drop o).take k) p)))], []⟩ := by
  have hk : ((B.drop o).take k).length = k := by rw [List.length_take, List.length_drop]; omega
  have e : layF S ((B.drop o).take k) p = List.take (0 + p) S ++ List.take (k.min (N - p)) (List.drop o B) ++ List.drop (0 + p + k.min (N - p)) S := by
    have : k.min (N - p) = k := Nat.min_eq_left (by omega)
    rw [layF, hk, this, Nat.zero_add]
  rw [e]
  refine acA tab mix Tryd.func87 {} ?_
  repeat first | refine EffG.mk (obA ?_) | refine obA ?_ | refine chkA ?_ | refine brY ?_ | refine brN ?_
  refine retA [0, 1]

/-- a write of a sector that is not safe -/
structure Lo where
  at' : Nat
  n : Nat
  bytes : List (BitVec 8)
def loD (l : Lo) : D := .node [.i64 l.at', .i64 l.n, .u8s l.bytes]
abbrev losD (l : List Lo) : D := .node (l.map loD)
theorem ren_los (s : Nat → Nat) : ∀ l : List Lo, D.rens s (l.map loD) = l.map loD
  | [] => rfl
  | a :: l => congrArg (loD a :: ·) (ren_los s l)
instance (l : List Lo) : Pure (losD l) := ⟨fun s => congrArg D.node (ren_los s l)⟩
def looD (b : Nat) : List Lo → D
  | [] => .nilslice
  | a :: l => .slice b [] 0 (l.length + 1) none
abbrev looM (b : Nat) : List Lo → Mem
  | [] => []
  | a :: l => [(b, some ⟨.row tLo, losD (a :: l), true⟩)]
theorem los_ty : ∀ {l : List Lo}, (∀ x ∈ l, x.bytes.length = 512) → AllD (hasTy tLo) (l.map loD)
  | [], _ => trivial
  | s :: l, h => ⟨⟨rfl, rfl, h s (by simp), trivial⟩, los_ty fun x hx => h x (by simp [hx])⟩

/-- a device that is loaded: its struct is 0, what is seen 1, what is safe 2, what is loose 3 -/
abbrev dvD (most N : Nat) (cap : Option Nat) (N2 : Nat) (cap2 : Option Nat) (lo : D) (st : Nat) : D := .node [.i64 most, .slice 1 [] 0 N cap, .slice 2 [] 0 N2 cap2, lo, .i64 st, .bool false, .nilptr]

theorem up_ac (most N : Nat) (cap : Option Nat) (N2 : Nat) (cap2 : Option Nat) (ls : List Lo) (st : Nat) :
    AC Tryd.prog 138 [.ptr 0 []] 4 [(0, some ⟨tDv, dvD most N cap N2 cap2 (looD 3 ls) st, false⟩)] ⟨.i64 0, [], []⟩ := by
  refine acA tab mix Tryd.func138 {} ?_
  cases ls
  all_goals
    repeat first | refine EffG.mk (obA ?_) | refine obA ?_ | refine chkA ?_ | refine brY ?_ | refine brN ?_
    refine retA [0, 1, 2, 3]

theorem sectors_ac (p k : Nat) (hp : p < 9223372036854775808) (hk : k < 9223372036854775808) : AC Tryd.prog 141 [.i64 p, .i64 k] 0 [] ⟨.fn 158 [] [.ptr 0 [], .ptr 1 []], [], [(.cell, .i64 p), (.cell, .i64 k)]⟩ := by
  refine acA tab mix Tryd.func141 {} ?_
  repeat first | refine EffG.mk (obA ?_) | refine obA ?_ | refine chkA ?_ | refine brY ?_ | refine brN ?_
  refine retA [0, 1]

abbrev loF (S : List (BitVec 8)) (q : Nat) : Lo := ⟨512 * q, 512, (S.drop (512 * q)).take 512⟩
theorem loB_eq (S : List (BitVec 8)) (N x : Nat) (h : 512 * x + 512 ≤ N) :
    List.take 0 (List.replicate 512 0) ++ List.take ((N - 512 * x).min (512 - 0)) (List.drop (0 + 512 * x) S) ++ List.drop (0 + (N - 512 * x).min (512 - 0)) (List.replicate 512 0) = (loF S x).bytes := by
  have e : (N - 512 * x).min (512 - 0) = 512 := Nat.min_eq_right (by omega)
  rw [e]; simp
theorem loB_length (S : List (BitVec 8)) (x : Nat) (h : 512 * x + 512 ≤ S.length) : (loF S x).bytes.length = 512 := by
  simp; omega
theorem lo_view {S : List (BitVec 8)} {x a : Nat} {b : List (BitVec 8)} (h1 : a = 512) (h2 : b = (loF S x).bytes) : D.node [.i64 (512 * x : Nat), .i64 (a : Nat), .u8s b] = loD (loF S x) := by subst h1; subst h2; rfl
theorem allD_app {P : D → Prop} : ∀ {a b : List D}, AllD P a → AllD P b → AllD P (a ++ b)
  | [], _, _, h => h
  | _ :: _, _, ⟨h1, h2⟩, h => ⟨h1, allD_app h2 h⟩
theorem los_step {ls : List Lo} (h : ∀ x ∈ ls, x.bytes.length = 512) {S : List (BitVec 8)} {x a : Nat} {b : List (BitVec 8)} (h1 : a = 512) (h2 : b = (loF S x).bytes) (h3 : (loF S x).bytes.length = 512) :
    AllD (hasTy tLo) ((ls.map loD).take ls.length ++ [D.node [.i64 (512 * x : Nat), .i64 (a : Nat), .u8s b]]) := by
  rw [lo_view h1 h2, List.take_of_length_le (by simp)]
  exact allD_app (los_ty h) ⟨⟨rfl, rfl, h3, trivial⟩, trivial⟩
theorem los_view {l0 : Lo} {ls : List Lo} {S : List (BitVec 8)} {x a : Nat} {b : List (BitVec 8)} (h1 : a = 512) (h2 : b = (loF S x).bytes) :
    D.node (((l0 :: ls).map loD).take (ls.length + 1) ++ [D.node [.i64 (512 * x : Nat), .i64 (a : Nat), .u8s b]]) = losD ((l0 :: ls) ++ [loF S x]) := by
  rw [lo_view h1 h2, List.take_of_length_le (by simp)]
  simp [losD]
theorem write1_ac (most N : Nat) (cap : Option Nat) (N2 : Nat) (cap2 : Option Nat) (ls : List Lo) (hls : ∀ x ∈ ls, x.bytes.length = 512) (st q o : Nat) (cap3 : Option Nat) (S B : List (BitVec 8)) (hS : S.length = N) (hq : 512 * q + 512 ≤ N) (hB : o + 512 ≤ B.length) (hN : N < 4611686018427387904) (hl : ls.length < 1000) :
    AC Tryd.prog 140 [.ptr 4 [], .ptr 5 [], .ptr 6 []] 8
      (looM 3 ls ++ [(0, some ⟨tDv, dvD most N cap N2 cap2 (looD 3 ls) st, true⟩), (1, some ⟨.row .cell, .u8s S, true⟩), (4, some ⟨.cell, .ptr 0 [], true⟩), (5, some ⟨.cell, .i64 (512 * q : Nat), true⟩), (6, some ⟨.cell, .slice 7 [] o 512 cap3, true⟩), (7, some ⟨.row .cell, .u8s B, false⟩)])
      ⟨.tup [], (looM 3 ls).map (fun p => (p.1, none)) ++ [(0, some (dvD most N cap N2 cap2 (.slice 8 [] 0 (ls.length + 1) none) st)), (1, some (.u8s (layF S ((B.drop o).take 512) (512 * q))))],
       [(.row tLo, losD (ls ++ [loF (layF S ((B.drop o).take 512) (512 * q)) q]))]⟩ := by
  have hlay := lay_ac S B (512 * q) o 512 N cap cap3 hS hq hB (by decide) hN
  have hsec := sectors_ac (512 * q) 512 (by omega) (by decide)
  have hL : (layF S ((B.drop o).take 512) (512 * q)).length = N := by rw [layF_length]; exact hS; rw [List.length_take, List.length_drop]; omega
  generalize layF S ((B.drop o).take 512) (512 * q) = S' at hlay hL ⊢
  refine acA tab mix Tryd.func140 {} ?_
  cases ls
  · repeat first | refine EffG.mk (obA ?_) | refine obA ?_ | refine chkA ?_ | refine brY ?_ | refine brN ?_
    refine callA hlay [1, 7] ?_
    repeat first | refine EffG.mk (obA ?_) | refine obA ?_ | refine chkA ?_ | refine brY ?_ | refine brN ?_
    refine callA hsec [] ?_
    repeat first | refine EffG.mk (obA ?_) | refine obA ?_ | refine chkA ?_ | refine brY ?_ | refine brN ?_
    have hg := sectors1_gen 8 9 (512 * q) 512 q 1 (N / 512) (rw1 := true) (rw2 := true) (by omega) (by omega) (by rw [if_neg (by decide)]; omega) (by omega) (by omega) (by omega)
    refine RangeG.mk ⟨158, [.ptr 8 [], .ptr 9 []], [(8, ⟨.cell, .i64 (512 * q : Nat), true⟩), (9, ⟨.cell, .i64 (512 : Nat), true⟩)], Fin (N / 512), fun x => .i64 (512 * x.val : Nat), fun ys => ys.map (·.val) = List.range' q 1, 1, 19, 3, 2, _,
      fun pre => match pre with
        | [] => [(0, some ⟨tDv, dvD most N cap N2 cap2 .nilslice st, true⟩), (1, some ⟨.row .cell, .u8s S', true⟩), (4, some ⟨.cell, .ptr 0 [], true⟩), (5, some ⟨.cell, .i64 (512 * q : Nat), true⟩), (6, some ⟨.cell, .slice 7 [] o 512 cap3, true⟩), (7, some ⟨.row .cell, .u8s B, false⟩), (8, some ⟨.cell, .i64 (512 * q : Nat), true⟩), (9, some ⟨.cell, .i64 (512 : Nat), true⟩)]
        | x :: _ => [(0, some ⟨tDv, dvD most N cap N2 cap2 (.slice 10 [] 0 1 none) st, true⟩), (1, some ⟨.row .cell, .u8s S', true⟩), (4, some ⟨.cell, .ptr 0 [], true⟩), (5, some ⟨.cell, .i64 (512 * q : Nat), true⟩), (6, some ⟨.cell, .slice 7 [] o 512 cap3, true⟩), (7, some ⟨.row .cell, .u8s B, false⟩), (8, some ⟨.cell, .i64 (512 * q : Nat), true⟩), (9, some ⟨.cell, .i64 (512 : Nat), true⟩), (10, some ⟨.row tLo, losD [loF S' x.val], true⟩)],
      11, [0, 1, 2, 3, 4, 5, 6, 7, 8, 9], rfl, hg, ⟨rfl, rfl, rfl, rfl, rfl, by decide, by decide⟩, ?_, ?_, ?_, ?_⟩
    · intro p hp
      rcases List.mem_cons.1 hp with rfl | hp
      · exact ⟨Nat.le_of_ble_eq_true rfl, rfl, fun pre => by cases pre <;> rfl⟩
      rcases List.mem_cons.1 hp with rfl | hp
      · exact ⟨Nat.le_of_ble_eq_true rfl, rfl, fun pre => by cases pre <;> rfl⟩
      cases hp
    · exact viewA
    · intro pre x hlt
      obtain rfl : pre = [] := by cases pre; rfl; simp at hlt
      have hx : 512 * x.val + 512 ≤ N := by have := x.isLt; omega
      have e1 := loB_eq S' N x.val hx
      have e2 := loB_length S' x.val (by omega)
      have e3 : (N - 512 * x.val).min (512 - 0) = 512 := Nat.min_eq_right (by omega)
      repeat first | refine EffG.mk (obA ?_) | refine obA ?_ | refine chkA ?_ | refine brY ?_ | refine brN ?_
      refine ⟨1, ?_⟩
      refine EffG.mk (And.intro ?_ ?_)
      · (repeat' (first | exact trivial | refine And.intro ?_ ?_)) <;> first | omega | exact Nat.le_refl _ | rfl | exact (congrArg List.length e1).trans e2 | decide
      repeat first | refine EffG.mk (obA ?_) | refine obA ?_ | refine chkA ?_ | refine brY ?_ | refine brN ?_
      refine ⟨[0, 1, 2, 3, 4, 5, 6, 7, 8, 9, 13], viewA (h3 := ?_)⟩
      (repeat' (first | exact trivial | refine And.intro ⟨_, rfl, rfl, ?_, id⟩ ?_ | refine And.intro ⟨_, rfl, rfl, ?_, fun _ => rfl⟩ ?_)) <;> first | rfl | exact (congrArg (fun d => D.node [d]) (lo_view e3 e1)).trans (Pure.ren (d := losD [loF S' x.val]) _).symm
    · intro xs hxs
      have hx1 : ∃ x : Fin (N / 512), xs = [x] ∧ x.val = q := by
        match xs, hxs with
        | [x], h => exact ⟨x, rfl, by simpa using h⟩
      obtain ⟨x, rfl, rfl⟩ := hx1
      repeat first | refine EffG.mk (obA ?_) | refine obA ?_ | refine chkA ?_ | refine brY ?_ | refine brN ?_
      refine retA [0, 1, 2, 3, 4, 5, 6, 7, 10]
  · rename_i l0 ls
    have hl2 : ls.length + 1 < 1000 := hl
    have hls1 := hls l0 (by simp)
    have hls2 : ∀ x ∈ ls, x.bytes.length = 512 := fun x hx => hls x (by simp [hx])
    repeat first | refine EffG.mk (obA ?_) | refine obA ?_ | refine chkA ?_ | refine brY ?_ | refine brN ?_
    refine callA hlay [1, 7] ?_
    repeat first | refine EffG.mk (obA ?_) | refine obA ?_ | refine chkA ?_ | refine brY ?_ | refine brN ?_
    refine callA hsec [] ?_
    repeat first | refine EffG.mk (obA ?_) | refine obA ?_ | refine chkA ?_ | refine brY ?_ | refine brN ?_
    have hg := sectors1_gen 8 9 (512 * q) 512 q 1 (N / 512) (rw1 := true) (rw2 := true) (by omega) (by omega) (by rw [if_neg (by decide)]; omega) (by omega) (by omega) (by omega)
    refine RangeG.mk ⟨158, [.ptr 8 [], .ptr 9 []], [(8, ⟨.cell, .i64 (512 * q : Nat), true⟩), (9, ⟨.cell, .i64 (512 : Nat), true⟩)], Fin (N / 512), fun x => .i64 (512 * x.val : Nat), fun ys => ys.map (·.val) = List.range' q 1, 1, 19, 3, 2, _,
      fun pre => match pre with
        | [] => [(0, some ⟨tDv, dvD most N cap N2 cap2 (.slice 3 [] 0 (ls.length + 1) none) st, true⟩), (1, some ⟨.row .cell, .u8s S', true⟩), (3, some ⟨.row tLo, losD (l0 :: ls), true⟩), (4, some ⟨.cell, .ptr 0 [], true⟩), (5, some ⟨.cell, .i64 (512 * q : Nat), true⟩), (6, some ⟨.cell, .slice 7 [] o 512 cap3, true⟩), (7, some ⟨.row .cell, .u8s B, false⟩), (8, some ⟨.cell, .i64 (512 * q : Nat), true⟩), (9, some ⟨.cell, .i64 (512 : Nat), true⟩)]
        | x :: _ => [(0, some ⟨tDv, dvD most N cap N2 cap2 (.slice 10 [] 0 (ls.length + 1 + 1) none) st, true⟩), (1, some ⟨.row .cell, .u8s S', true⟩), (4, some ⟨.cell, .ptr 0 [], true⟩), (5, some ⟨.cell, .i64 (512 * q : Nat), true⟩), (6, some ⟨.cell, .slice 7 [] o 512 cap3, true⟩), (7, some ⟨.row .cell, .u8s B, false⟩), (8, some ⟨.cell, .i64 (512 * q : Nat), true⟩), (9, some ⟨.cell, .i64 (512 : Nat), true⟩), (10, some ⟨.row tLo, losD ((l0 :: ls) ++ [loF S' x.val]), true⟩)],
      11, [0, 1, 2, 3, 4, 5, 6, 7, 8, 9], rfl, hg, ⟨rfl, rfl, rfl, rfl, rfl, by decide, by decide⟩, ?_, ?_, ?_, ?_⟩
    · intro p hp
      rcases List.mem_cons.1 hp with rfl | hp
      · exact ⟨Nat.le_of_ble_eq_true rfl, rfl, fun pre => by cases pre <;> rfl⟩
      rcases List.mem_cons.1 hp with rfl | hp
      · exact ⟨Nat.le_of_ble_eq_true rfl, rfl, fun pre => by cases pre <;> rfl⟩
      cases hp
    · exact viewA
    · intro pre x hlt
      obtain rfl : pre = [] := by cases pre; rfl; simp at hlt
      have hx : 512 * x.val + 512 ≤ N := by have := x.isLt; omega
      have e1 := loB_eq S' N x.val hx
      have e2 := loB_length S' x.val (by omega)
      have e3 : (N - 512 * x.val).min (512 - 0) = 512 := Nat.min_eq_right (by omega)
      repeat first | refine EffG.mk (obA ?_) | refine obA ?_ | refine chkA ?_ | refine brY ?_ | refine brN ?_
      refine ⟨0, ?_⟩
      refine EffG.mk (And.intro ?_ ?_)
      · (repeat' (first | exact trivial | refine And.intro ?_ ?_)) <;> first | omega | exact Nat.le_refl _ | rfl | exact (congrArg List.length e1).trans e2 | decide | exact (show (ls.length + 1 + 1) * 528 ≤ 140737488355328 by omega) | exact (show ls.length + 1 + 1 < 9223372036854775808 by omega) | exact hls1 | exact (show 0 + (ls.length + 1) ≤ ((l0 :: ls).map loD).length by rw [List.length_map, List.length_cons]; omega) | exact los_step hls2 e3 e1 e2
      repeat first | refine EffG.mk (obA ?_) | refine obA ?_ | refine chkA ?_ | refine brY ?_ | refine brN ?_
      refine ⟨[0, 1, 2, 3, 4, 5, 6, 7, 8, 9, 13], viewA (h3 := ?_)⟩
      (repeat' (first | exact trivial | refine And.intro ⟨_, rfl, rfl, ?_, id⟩ ?_ | refine And.intro ⟨_, rfl, rfl, ?_, fun _ => rfl⟩ ?_)) <;> first | rfl | exact (los_view e3 e1).trans (Pure.ren (d := losD ((l0 :: ls) ++ [loF S' x.val])) _).symm
    · intro xs hxs
      have hx1 : ∃ x : Fin (N / 512), xs = [x] ∧ x.val = q := by
        match xs, hxs with
        | [x], h => exact ⟨x, rfl, by simpa using h⟩
      obtain ⟨x, rfl, rfl⟩ := hx1
      repeat first | refine EffG.mk (obA ?_) | refine obA ?_ | refine chkA ?_ | refine brY ?_ | refine brN ?_
      refine retA [0, 1, 2, 3, 4, 5, 6, 7, 10]
end Go.Proofs.YtodkhgofmgaafaaDoor.Av

namespace Go.Proofs.YtodkhgofmgaafaaDoor.Av
open Go
set_option linter.all false
set_option maxRecDepth 3000

theorem step_ac (most N : Nat) (cap : Option Nat) (N2 : Nat) (cap2 : Option Nat) (ls : List Lo) (hls : ∀ x ∈ ls, x.bytes.length = 512) (st q o : Nat) (cap3 : Option Nat) (S B : List (BitVec 8)) (hS : S.length = N) (hq : 512 * q + 512 ≤ N) (hB : o + 512 ≤ B.length) (hN : N < 4611686018427387904) (hl : ls.length < 1000) (hst : st < 1000) :
    AC Tryd.prog 139 [.ptr 0 [], .fn 140 [] [.ptr 4 [], .ptr 5 [], .ptr 6 []]] 8
      (looM 3 ls ++ [(0, some ⟨tDv, dvD most N cap N2 cap2 (looD 3 ls) st, true⟩), (1, some ⟨.row .cell, .u8s S, true⟩), (4, some ⟨.cell, .ptr 0 [], true⟩), (5, some ⟨.cell, .i64 (512 * q : Nat), true⟩), (6, some ⟨.cell, .slice 7 [] o 512 cap3, true⟩), (7, some ⟨.row .cell, .u8s B, false⟩)])
      ⟨.i64 0, (looM 3 ls).map (fun p => (p.1, none)) ++ [(0, some (dvD most N cap N2 cap2 (.slice 8 [] 0 (ls.length + 1) none) (st + 1))), (1, some (.u8s (layF S ((B.drop o).take 512) (512 * q))))],
       [(.row tLo, losD (ls ++ [loF (layF S ((B.drop o).take 512) (512 * q)) q]))]⟩ := by
  have hw := write1_ac most N cap N2 cap2 ls hls (st + 1) q o cap3 S B hS hq hB hN hl
  generalize layF S ((B.drop o).take 512) (512 * q) = S' at hw ⊢
  refine acA tab mix Tryd.func139 {} ?_
  cases ls
  · repeat first | refine EffG.mk (obA ?_) | refine obA ?_ | refine chkA ?_ | refine brY ?_ | refine brN ?_
    refine callA hw [0, 1, 2, 3, 4, 5, 6, 7] ?_
    repeat first | refine EffG.mk (obA ?_) | refine obA ?_ | refine chkA ?_ | refine brY ?_ | refine brN ?_
    refine retA [0, 1, 2, 3, 4, 5, 6, 7, 8]
  · repeat first | refine EffG.mk (obA ?_) | refine obA ?_ | refine chkA ?_ | refine brY ?_ | refine brN ?_
    refine callA hw [0, 1, 2, 3, 4, 5, 6, 7] ?_
    repeat first | refine EffG.mk (obA ?_) | refine obA ?_ | refine chkA ?_ | refine brY ?_ | refine brN ?_
    refine retA [0, 1, 2, 3, 4, 5, 6, 7, 8]

theorem dwrite_ac (most N : Nat) (cap : Option Nat) (N2 : Nat) (cap2 : Option Nat) (ls : List Lo) (hls : ∀ x ∈ ls, x.bytes.length = 512) (st q o : Nat) (cap3 : Option Nat) (S B : List (BitVec 8)) (hS : S.length = N) (hq : 512 * q + 512 ≤ N) (hB : o + 512 ≤ B.length) (hN : N ≤ most) (hm : most ≤ 16777216) (hl : ls.length < 1000) (hst : st < 1000) :
    AC Tryd.prog 111 [.ptr 0 [], .i64 (512 * q : Nat), .slice 4 [] o 512 cap3] 5
      (looM 3 ls ++ [(0, some ⟨tDv, dvD most N cap N2 cap2 (looD 3 ls) st, true⟩), (1, some ⟨.row .cell, .u8s S, true⟩), (4, some ⟨.row .cell, .u8s B, false⟩)])
      ⟨.i64 0, (looM 3 ls).map (fun p => (p.1, none)) ++ [(0, some (dvD most N cap N2 cap2 (.slice 5 [] 0 (ls.length + 1) none) (st + 1))), (1, some (.u8s (layF S ((B.drop o).take 512) (512 * q))))],
       [(.row tLo, losD (ls ++ [loF (layF S ((B.drop o).take 512) (512 * q)) q]))]⟩ := by
  have hw := step_ac most N cap N2 cap2 ls hls st q o cap3 S B hS hq hB (by omega) hl hst
  have hu := up_ac most N cap N2 cap2 ls st
  generalize layF S ((B.drop o).take 512) (512 * q) = S' at hw ⊢
  refine acA tab mix Tryd.func111 {} ?_
  cases ls
  · repeat first | refine EffG.mk (obA ?_) | refine obA ?_ | refine chkA ?_ | refine brY ?_ | refine brN ?_
    refine callA hu [0, 1, 2, 3] ?_
    repeat first | refine EffG.mk (obA ?_) | refine obA ?_ | refine chkA ?_ | refine brY ?_ | refine brN ?_
    refine callA hw [0, 1, 2, 3, 5, 6, 7, 4] ?_
    repeat first | refine EffG.mk (obA ?_) | refine obA ?_ | refine chkA ?_ | refine brY ?_ | refine brN ?_
    refine retA [0, 1, 2, 3, 4, 8]
  · repeat first | refine EffG.mk (obA ?_) | refine obA ?_ | refine chkA ?_ | refine brY ?_ | refine brN ?_
    refine callA hu [0, 1, 2, 3] ?_
    repeat first | refine EffG.mk (obA ?_) | refine obA ?_ | refine chkA ?_ | refine brY ?_ | refine brN ?_
    refine callA hw [0, 1, 2, 3, 5, 6, 7, 4] ?_
    repeat first | refine EffG.mk (obA ?_) | refine obA ?_ | refine chkA ?_ | refine brY ?_ | refine brN ?_
    refine retA [0, 1, 2, 3, 4, 8]

theorem dread0_ac (most N : Nat) (cap : Option Nat) (N2 : Nat) (cap2 : Option Nat) (ls : List Lo) (st p k : Nat) (S : List (BitVec 8)) (hS : S.length = N) (hq : p + k ≤ N) (hN : N < 70368744177664) :
    AC Tryd.prog 117 [.ptr 0 [], .i64 p, .i64 k] 4
      [(0, some ⟨tDv, dvD most N cap N2 cap2 (looD 3 ls) st, false⟩), (1, some ⟨.row .cell, .u8s S, false⟩)]
      ⟨.tup [.slice 4 [] 0 (((p : Int) + (k : Int)).toNat - p) none, .i64 0], [], [(.row .cell, .u8s ((S.drop (0 + p)).take (((p : Int) + (k : Int)).toNat - p)))]⟩ := by
  have hu := up_ac most N cap N2 cap2 ls st
  have hc := clone_ac S (0 + p) (((p : Int) + (k : Int)).toNat - p) (cap.map (· - p)) (by omega) (by omega)
  refine acA tab mix Tryd.func117 {} ?_
  cases ls
  · repeat first | refine EffG.mk (obA ?_) | refine obA ?_ | refine chkA ?_ | refine brY ?_ | refine brN ?_
    refine callA hu [0, 1, 2, 3] ?_
    repeat first | refine EffG.mk (obA ?_) | refine obA ?_ | refine chkA ?_ | refine brY ?_ | refine brN ?_
    refine callA hc [1] ?_
    repeat first | refine EffG.mk (obA ?_) | refine obA ?_ | refine chkA ?_ | refine brY ?_ | refine brN ?_
    refine retA [0, 1, 2, 3, 4]
  · repeat first | refine EffG.mk (obA ?_) | refine obA ?_ | refine chkA ?_ | refine brY ?_ | refine brN ?_
    refine callA hu [0, 1, 2, 3] ?_
    repeat first | refine EffG.mk (obA ?_) | refine obA ?_ | refine chkA ?_ | refine brY ?_ | refine brN ?_
    refine callA hc [1] ?_
    repeat first | refine EffG.mk (obA ?_) | refine obA ?_ | refine chkA ?_ | refine brY ?_ | refine brN ?_
    refine retA [0, 1, 2, 3, 4]
theorem dread_ac (most N : Nat) (cap : Option Nat) (N2 : Nat) (cap2 : Option Nat) (ls : List Lo) (st p k : Nat) (S : List (BitVec 8)) (hS : S.length = N) (hq : p + k ≤ N) (hN : N < 70368744177664) :
    AC Tryd.prog 117 [.ptr 0 [], .i64 p, .i64 k] 4
      [(0, some ⟨tDv, dvD most N cap N2 cap2 (looD 3 ls) st, false⟩), (1, some ⟨.row .cell, .u8s S, false⟩)]
      ⟨.tup [.slice 4 [] 0 k none, .i64 0], [], [(.row .cell, .u8s ((S.drop p).take k))]⟩ := by
  have h := dread0_ac most N cap N2 cap2 ls st p k S hS hq hN
  rw [show ((p : Int) + (k : Int)).toNat - p = k by omega, Nat.zero_add] at h
  exact h
theorem dbytes_ac (most N : Nat) (cap : Option Nat) (N2 : Nat) (cap2 : Option Nat) (ls : List Lo) (st : Nat) (S : List (BitVec 8)) (hS : S.length = N) (hN : N < 70368744177664) :
    AC Tryd.prog 32 [.ptr 0 []] 4
      [(0, some ⟨tDv, dvD most N cap N2 cap2 (looD 3 ls) st, false⟩), (1, some ⟨.row .cell, .u8s S, false⟩)]
      ⟨.slice 4 [] 0 N none, [], [(.row .cell, .u8s S)]⟩ := by
  have hc := clone_ac S 0 N cap (by omega) (by omega)
  rw [List.drop_zero, List.take_of_length_le (by omega)] at hc
  refine acA tab mix Tryd.func32 {} ?_
  cases ls
  · repeat first | refine EffG.mk (obA ?_) | refine obA ?_ | refine chkA ?_ | refine brY ?_ | refine brN ?_
    refine callA hc [1] ?_
    repeat first | refine EffG.mk (obA ?_) | refine obA ?_ | refine chkA ?_ | refine brY ?_ | refine brN ?_
    refine retA [0, 1, 2, 3, 4]
  · repeat first | refine EffG.mk (obA ?_) | refine obA ?_ | refine chkA ?_ | refine brY ?_ | refine brN ?_
    refine callA hc [1] ?_
    repeat first | refine EffG.mk (obA ?_) | refine obA ?_ | refine chkA ?_ | refine brY ?_ | refine brN ?_
    refine retA [0, 1, 2, 3, 4]
/-- a new device's first file -/
theorem dload_ac (most N o : Nat) (S : List (BitVec 8)) (c : Option Nat) (hS : o + N ≤ S.length) (hN : N ≤ most) (hm : most ≤ 16777216) :
    AC Tryd.prog 33 [.ptr 0 [], .slice 1 [] o N c] 2
      [(0, some ⟨tDv, .node [.i64 most, .nilslice, .nilslice, .nilslice, .i64 0, .bool false, .nilptr], true⟩), (1, some ⟨.row .cell, .u8s S, false⟩)]
      ⟨.tup [], [(0, some (.node [.i64 most, .slice 2 [] 0 N none, .slice 3 [] 0 N none, .nilslice, .i64 0, .bool false, .nilptr]))], [(.row .cell, .u8s ((S.drop o).take N)), (.row .cell, .u8s ((S.drop o).take N))]⟩ := by
  have hc := clone_ac S o N c (by omega) (by omega)
  refine acA tab mix Tryd.func33 {} ?_
  repeat first | refine EffG.mk (obA ?_) | refine obA ?_ | refine chkA ?_ | refine brY ?_ | refine brN ?_
  refine callA hc [1] ?_
  repeat first | refine EffG.mk (obA ?_) | refine obA ?_ | refine chkA ?_ | refine brY ?_ | refine brN ?_
  refine callA hc [1] ?_
  repeat first | refine EffG.mk (obA ?_) | refine obA ?_ | refine chkA ?_ | refine brY ?_ | refine brN ?_
  refine retA [0, 1, 2, 3]
/-- another file -/
theorem dload2_ac (most N o N1 N2 st : Nat) (cap cap2 : Option Nat) (ls : List Lo) (S : List (BitVec 8)) (c : Option Nat) (hS : o + N ≤ S.length) (hN : N ≤ most) (hm : most ≤ 16777216) :
    AC Tryd.prog 33 [.ptr 0 [], .slice 4 [] o N c] 5
      [(0, some ⟨tDv, dvD most N1 cap N2 cap2 (looD 3 ls) st, true⟩), (4, some ⟨.row .cell, .u8s S, false⟩)]
      ⟨.tup [], [(0, some (.node [.i64 most, .slice 5 [] 0 N none, .slice 6 [] 0 N none, .nilslice, .i64 st, .bool false, .nilptr]))], [(.row .cell, .u8s ((S.drop o).take N)), (.row .cell, .u8s ((S.drop o).take N))]⟩ := by
  have hc := clone_ac S o N c (by omega) (by omega)
  refine acA tab mix Tryd.func33 {} ?_
  cases ls
  · repeat first | refine EffG.mk (obA ?_) | refine obA ?_ | refine chkA ?_ | refine brY ?_ | refine brN ?_
    refine callA hc [4] ?_
    repeat first | refine EffG.mk (obA ?_) | refine obA ?_ | refine chkA ?_ | refine brY ?_ | refine brN ?_
    refine callA hc [4] ?_
    repeat first | refine EffG.mk (obA ?_) | refine obA ?_ | refine chkA ?_ | refine brY ?_ | refine brN ?_
    refine retA [0, 1, 2, 3, 4, 5, 6]
  · repeat first | refine EffG.mk (obA ?_) | refine obA ?_ | refine chkA ?_ | refine brY ?_ | refine brN ?_
    refine callA hc [4] ?_
    repeat first | refine EffG.mk (obA ?_) | refine obA ?_ | refine chkA ?_ | refine brY ?_ | refine brN ?_
    refine callA hc [4] ?_
    repeat first | refine EffG.mk (obA ?_) | refine obA ?_ | refine chkA ?_ | refine brY ?_ | refine brN ?_
    refine retA [0, 1, 2, 3, 4, 5, 6]
end Go.Proofs.YtodkhgofmgaafaaDoor.Av

namespace Go.Proofs.YtodkhgofmgaafaaDoor.Av
open Go
set_option linter.all false
set_option maxRecDepth 3000

/-! the document's sums with a key -/
end Go.Proofs.YtodkhgofmgaafaaDoor.Av

namespace Go.Proofs.YtodkhgofmgaafaaDoor.Av
open Go
set_option linter.all false
set_option maxRecDepth 3000

/-! the document's sums with any key -/
end Go.Proofs.YtodkhgofmgaafaaDoor.Av

namespace Go.Proofs.YtodkhgofmgaafaaDoor.Av
open Go
set_option linter.all false
set_option maxRecDepth 3000

/-! the document's keys of passphrases -/
end Go.Proofs.YtodkhgofmgaafaaDoor.Av

namespace Go.Proofs.YtodkhgofmgaafaaDoor.Av
open Go
set_option linter.all false
set_option maxRecDepth 3000

/-! the document's answer of layers 1 and 6: small functions -/

end Go.Proofs.YtodkhgofmgaafaaDoor.Av

namespace Go.Proofs.YtodkhgofmgaafaaDoor.Av
open Go
set_option linter.all false
set_option maxRecDepth 3000

/-! the document's round keys -/
end Go.Proofs.YtodkhgofmgaafaaDoor.Av

namespace Go.Proofs.YtodkhgofmgaafaaDoor.Av
open Go
set_option linter.all false
set_option maxRecDepth 3000

/-! what the round keys are, with no program in sight -/

section
variable (key : List (BitVec 8)) (hk : key.length = 32)
include hk
end

end Go.Proofs.YtodkhgofmgaafaaDoor.Av

namespace Go.Proofs.YtodkhgofmgaafaaDoor.Av
open Go
set_option linter.all false
set_option maxRecDepth 3000

/-! the document's round keys are the program's: with no program in sight -/

end Go.Proofs.YtodkhgofmgaafaaDoor.Av

namespace Go.Proofs.YtodkhgofmgaafaaDoor.Av
open Go
set_option linter.all false
set_option maxRecDepth 3000

/-! the document's way to encrypt -/
end Go.Proofs.YtodkhgofmgaafaaDoor.Av

namespace Go.Proofs.YtodkhgofmgaafaaDoor.Av
open Go
set_option linter.all false
set_option maxRecDepth 3000

end Go.Proofs.YtodkhgofmgaafaaDoor.Av

namespace Go.Proofs.YtodkhgofmgaafaaDoor.Av
open Go
set_option linter.all false
set_option maxRecDepth 3000

end Go.Proofs.YtodkhgofmgaafaaDoor.Av

namespace Go.Proofs.YtodkhgofmgaafaaDoor.Av
open Go
set_option linter.all false
set_option maxRecDepth 3000

/-! the document's wrapped keys -/
end Go.Proofs.YtodkhgofmgaafaaDoor.Av

namespace Go.Proofs.YtodkhgofmgaafaaDoor.Av
open Go
set_option linter.all false
set_option maxRecDepth 3000

end Go.Proofs.YtodkhgofmgaafaaDoor.Av

namespace Go.Proofs.YtodkhgofmgaafaaDoor.Av
open Go
set_option linter.all false
set_option maxRecDepth 3000

/-! the document's key slots -/
end Go.Proofs.YtodkhgofmgaafaaDoor.Av

namespace Go.Proofs.YtodkhgofmgaafaaDoor.Av
open Go
set_option linter.all false
set_option maxRecDepth 3000

end Go.Proofs.YtodkhgofmgaafaaDoor.Av

namespace Go.Proofs.YtodkhgofmgaafaaDoor.Av
open Go
set_option linter.all false
set_option maxRecDepth 3000

/-! tables as bytes -/
theorem put16_ac (n : BitVec 16) : AC Tryd.prog 62 [.u16 n] 0 [] ⟨.slice 0 [] 0 2 none, [], [(.row .cell, .u8s (nbF (n.setWidth 64) 2))]⟩ := by
  refine acA tab mix Tryd.func62 {} ?_
  repeat first | refine EffG.mk (obA ?_) | refine obA ?_ | refine chkA ?_
  refine callA (put_ac (n.setWidth 64) 2 (by decide)) [] ?_
  repeat first | refine EffG.mk (obA ?_) | refine obA ?_ | refine chkA ?_
  refine retA [0]
end Go.Proofs.YtodkhgofmgaafaaDoor.Av

namespace Go.Proofs.YtodkhgofmgaafaaDoor.Av
open Go
set_option linter.all false
set_option maxRecDepth 3000

/-! an image's shape -/
abbrev geoD (c p : Nat) : D := .node [.i64 c, .i64 p]

theorem may_ac (c p : Nat) (hc : 1 ≤ c) (hc2 : c ≤ 64) (hp : 1 ≤ p) (hp2 : p ≤ 2) : AC Tryd.prog 136 [geoD c p] 0 [] ⟨.bool true, [], []⟩ := by
  have q0 : (!(D.node [.i64 c, .i64 p]).eqb (.node [.i64 0, .i64 0])) = true := by
    have : decide ((c : Int) = 0) = false := decide_eq_false (by omega)
    simp [D.eqb, D.eqbs, eqScal, this]; omega
  have q1 : decide ((c : Int) ≥ 1) = true := decide_eq_true (by omega)
  have q2 : decide ((c : Int) ≤ 64) = true := decide_eq_true (by omega)
  have q3 : decide ((p : Int) ≥ 1) = true := decide_eq_true (by omega)
  have q4 : decide ((p : Int) ≤ 2) = true := decide_eq_true (by omega)
  refine acA tab mix Tryd.func136 {} ?_
  repeat first | refine EffG.mk (obA ?_) | refine obA ?_ | refine chkA ?_ | refine brY ?_ | refine brN ?_
  rw [q0]
  repeat first | refine EffG.mk (obA ?_) | refine obA ?_ | refine chkA ?_ | refine brY ?_ | refine brN ?_
  rw [q1]
  repeat first | refine EffG.mk (obA ?_) | refine obA ?_ | refine chkA ?_ | refine brY ?_ | refine brN ?_
  rw [q4]
  refine retA []

theorem padN_ac (bs : List (BitVec 8)) (o k n : Nat) (cap : Option Nat) (h : o + k ≤ bs.length) (hk : k ≤ n) (hn : n ≤ 65536) :
    AC Tryd.prog 60 [.slice 0 [] o k cap, .i64 n] 1 [(0, some ⟨.row .cell, .u8s bs, false⟩)] ⟨.tup [.slice 1 [] 0 n none, .i64 0], [], [(.row .cell, .u8s ((bs.drop o).take k ++ List.replicate (n - k) 0))]⟩ := by
  refine acA tab mix Tryd.func60 {} ?_
  repeat first | refine EffG.mk (obA ?_) | refine obA ?_ | refine chkA ?_ | refine brY ?_ | refine brN ?_
  have q1 : Nat.min k n = k := Nat.min_eq_left hk
  have e : List.take 0 (List.replicate n (0 : BitVec 8)) ++ List.take (Nat.min k n) (List.drop o bs) ++ List.drop (0 + Nat.min k n) (List.replicate n 0) = (bs.drop o).take k ++ List.replicate (n - k) 0 := by
    rw [q1, Nat.zero_add, List.drop_replicate]; rfl
  refine retA [0, 1] (h3 := ?_)
  (repeat' (first | exact trivial | refine And.intro ⟨_, rfl, rfl, ?_, id⟩ ?_ | refine And.intro ⟨_, rfl, rfl, ?_, fun _ => rfl⟩ ?_)) <;> first | rfl | exact congrArg D.u8s e

theorem concat4_ac (a b c d : List (BitVec 8)) (ha : a.length = 9) (hb : b.length = 1) (hc : c.length = 2) (hd : d.length = 1) (ca cb cd : Option Nat) :
    AC Tryd.prog 61 [.slice 0 [] 0 4 (some 4)] 5 [(0, some ⟨.row .cell, .node [.slice 1 [] 0 9 ca, .slice 2 [] 0 1 cb, .slice 3 [] 0 2 none, .slice 4 [] 0 1 cd], true⟩),
      (1, some ⟨.row .cell, .u8s a, false⟩), (2, some ⟨.row .cell, .u8s b, false⟩), (3, some ⟨.row .cell, .u8s c, false⟩), (4, some ⟨.row .cell, .u8s d, false⟩)]
      ⟨.slice 5 [] 0 13 none, [], [(.row .cell, .u8s (a ++ b ++ c ++ d))]⟩ := by
  refine acA tab mix Tryd.func61 ⟨[], [3, 11]⟩ ?_
  repeat first | refine EffG.mk (obA ?_) | refine obA ?_ | refine chkA ?_
  refine unrG 5 ?_
  repeat first | refine EffG.mk (obA ?_) | refine obA ?_ | refine chkA ?_ | refine brY ?_ | refine brN ?_
  refine callA (grow_ac (0 + (9 : Int) + 1 + 2 + 1) (by omega) (by omega)) [] ?_
  repeat first | refine EffG.mk (obA ?_) | refine obA ?_ | refine chkA ?_
  refine unrG 5 ?_
  repeat first | refine EffG.mk (obA ?_) | refine obA ?_ | refine chkA ?_ | refine brY ?_ | refine brN ?_
  refine ⟨0, ?_⟩
  repeat first | refine EffG.mk (obA ?_) | refine obA ?_ | refine chkA ?_ | refine brY ?_ | refine brN ?_
  refine ⟨0, ?_⟩
  repeat first | refine EffG.mk (obA ?_) | refine obA ?_ | refine chkA ?_ | refine brY ?_ | refine brN ?_
  refine ⟨0, ?_⟩
  repeat first | refine EffG.mk (obA ?_) | refine obA ?_ | refine chkA ?_ | refine brY ?_ | refine brN ?_
  refine ⟨0, ?_⟩
  repeat first | refine EffG.mk (obA ?_) | refine obA ?_ | refine chkA ?_ | refine brY ?_ | refine brN ?_
  refine retA [0, 1, 2, 3, 4, 9] (h3 := ?_)
  (repeat' (first | exact trivial | refine And.intro ⟨_, rfl, rfl, ?_, id⟩ ?_ | refine And.intro ⟨_, rfl, rfl, ?_, fun _ => rfl⟩ ?_)) <;> first | rfl | skip
  have t1 : List.take 9 a = a := List.take_of_length_le (by omega)
  have t2 : List.take 1 b = b := List.take_of_length_le (by omega)
  have t3 : List.take 2 c = c := List.take_of_length_le (by omega)
  have t4 : List.take 1 d = d := List.take_of_length_le (by omega)
  have k2 : List.take 10 (a ++ b) = a ++ b := List.take_of_length_le (by simp only [List.length_append]; omega)
  have k3 : List.take 12 (a ++ b ++ c) = a ++ b ++ c := List.take_of_length_le (by simp only [List.length_append]; omega)
  exact congrArg D.u8s (show List.take 12 (List.take 10 (List.take 9 (List.take 9 a) ++ List.take 1 b) ++ List.take 2 c) ++ List.take 1 d = a ++ b ++ c ++ d by rw [t1, t1, t2, k2, t3, k3, t4])
theorem place_ac (c p : Nat) (n : BitVec 32) (hc : 1 ≤ c) (hc2 : c ≤ 64) (hp : 1 ≤ p) (hp2 : p ≤ 2) (hn : n.toNat ≤ 65535) : AC Tryd.prog 112 [geoD c p, .u32 n] 0 [] ⟨.i64 ((8 + (n.toNat : Int) * p) * 512), [], []⟩ := by
  have hm := may_ac c p hc hc2 hp hp2
  have hx : (n.toNat : Int) * p ≤ 131070 := by
    have := Nat.mul_le_mul hn hp2
    rw [← Int.natCast_mul]
    omega
  have hx0 : 0 ≤ (n.toNat : Int) * p := by rw [← Int.natCast_mul]; omega
  refine acA tab mix Tryd.func112 {} ?_
  repeat first | refine EffG.mk (obA ?_) | refine obA ?_ | refine chkA ?_ | refine brY ?_ | refine brN ?_
  refine callA hm [] ?_
  repeat first | refine EffG.mk (obA ?_) | refine obA ?_ | refine chkA ?_ | refine brY ?_ | refine brN ?_
  refine brN ?_ (decide_eq_false (show ¬ 65535 < n.toNat by omega))
  repeat first | refine EffG.mk (obA ?_) | refine obA ?_ | refine chkA ?_ | refine brY ?_ | refine brN ?_
  refine retA []
def supB (c p : Nat) : List (BitVec 8) := [82, 69, 76, 73, 81, 85, 65, 82, 89] ++ [1] ++ nbF ((BitVec.ofInt 16 c).setWidth 64) 2 ++ [BitVec.ofInt 8 p]
theorem supB_length (c p : Nat) : (supB c p).length = 13 := by simp [supB, nbF_length]
theorem sput_ac (c p : Nat) (hc : 1 ≤ c) (hc2 : c ≤ 64) (hp : 1 ≤ p) (hp2 : p ≤ 2) : AC Tryd.prog 109 [geoD c p] 0 [] ⟨.tup [.slice 0 [] 0 512 none, .i64 0], [], [(.row .cell, .u8s (supB c p ++ List.replicate (512 - 13) 0))]⟩ := by
  have hm := may_ac c p hc hc2 hp hp2
  have h1 := put16_ac (BitVec.ofInt 16 c)
  have hl := nbF_length ((BitVec.ofInt 16 c).setWidth 64) 2
  have h2 := concat4_ac [82, 69, 76, 73, 81, 85, 65, 82, 89] [1] (nbF ((BitVec.ofInt 16 c).setWidth 64) 2) [BitVec.ofInt 8 p] rfl rfl hl rfl (some 9) (some 1) (some 1)
  rw [show [82, 69, 76, 73, 81, 85, 65, 82, 89] ++ [1] ++ nbF ((BitVec.ofInt 16 c).setWidth 64) 2 ++ [BitVec.ofInt 8 p] = supB c p from rfl] at h2
  have h3 := padN_ac (supB c p) 0 13 512 none (by rw [supB_length]; decide) (by decide) (by decide)
  rw [List.drop_zero, List.take_of_length_le (by rw [supB_length]; decide)] at h3
  generalize supB c p = Y at h2 h3 ⊢
  generalize nbF ((BitVec.ofInt 16 c).setWidth 64) 2 = Z at h1 h2
  refine acA tab mix Tryd.func109 {} ?_
  repeat first | refine EffG.mk (obA ?_) | refine obA ?_ | refine chkA ?_ | refine brY ?_ | refine brN ?_
  refine callA hm [] ?_
  repeat first | refine EffG.mk (obA ?_) | refine obA ?_ | refine chkA ?_ | refine brY ?_ | refine brN ?_
  refine callA h1 [] ?_
  repeat first | refine EffG.mk (obA ?_) | refine obA ?_ | refine chkA ?_ | refine brY ?_ | refine brN ?_
  refine callA h2 [5, 1, 2, 3, 4] ?_
  repeat first | refine EffG.mk (obA ?_) | refine obA ?_ | refine chkA ?_ | refine brY ?_ | refine brN ?_
  refine callA h3 [6] ?_
  repeat first | refine EffG.mk (obA ?_) | refine obA ?_ | refine chkA ?_ | refine brY ?_ | refine brN ?_
  refine retA [7]
theorem ssum_ac (c p : Nat) (hc : 1 ≤ c) (hc2 : c ≤ 64) (hp : 1 ≤ p) (hp2 : p ≤ 2) : AC Tryd.prog 74 [geoD c p] 0 [gR] ⟨.u8s (shaF (supB c p ++ List.replicate (512 - 13) 0)), [], []⟩ := by
  have h1 := sput_ac c p hc hc2 hp hp2
  have hl : (supB c p ++ List.replicate (512 - 13) 0).length = 512 := by simp [supB_length]
  generalize supB c p ++ List.replicate (512 - 13) 0 = Y at h1 hl ⊢
  have h2 := of1_ac Y 0 512 none (by omega) (by decide) (by decide)
  rw [List.drop_zero, List.take_of_length_le (by omega)] at h2
  have hy := shaF_length Y
  generalize shaF Y = z at h2 hy ⊢
  refine acA tab mix Tryd.func74 {} ?_
  repeat first | refine EffG.mk (obA ?_) | refine obA ?_ | refine chkA ?_ | refine brY ?_ | refine brN ?_
  refine callA h1 [] ?_
  repeat first | refine EffG.mk (obA ?_) | refine obA ?_ | refine chkA ?_ | refine brY ?_ | refine brN ?_
  refine callA h2 [3, 2] ?_
  repeat first | refine EffG.mk (obA ?_) | refine obA ?_ | refine chkA ?_ | refine brY ?_ | refine brN ?_
  refine retA []
end Go.Proofs.YtodkhgofmgaafaaDoor.Av

namespace Go.Proofs.YtodkhgofmgaafaaDoor.Av
open Go
set_option linter.all false
set_option maxRecDepth 3000

/-! layer 7: what the code computes -/
def twI (t : List (BitVec 8)) : Nat → List (BitVec 8) × BitVec 8
  | 0 => (t, 0)
  | n + 1 => ((twI t n).1.set n ((twI t n).1.getD n 0 <<< 1 ||| (twI t n).2), (twI t n).1.getD n 0 >>> 7)
def twF (t : List (BitVec 8)) : List (BitVec 8) := if (twI t 16).2 = 0 then (twI t 16).1 else (twI t 16).1.set 0 ((twI t 16).1.getD 0 0 ^^^ 135)
theorem twI_length (t : List (BitVec 8)) : ∀ n, (twI t n).1.length = t.length
  | 0 => rfl
  | n + 1 => by rw [twI, List.length_set, twI_length t n]
theorem twF_length (t : List (BitVec 8)) : (twF t).length = t.length := by
  unfold twF
  split
  · exact twI_length t 16
  · rw [List.length_set, twI_length t 16]

theorem twice37_ac (t : List (BitVec 8)) (ht : t.length = 16) : AC Tryd.prog 144 [.u8s t] 0 [] ⟨.u8s (twF t), [], []⟩ := by
  refine ac_of tab mix Tryd.func144 rfl (by kernel_rfl) (by kernel_rfl) (by kernel_rfl) ⟨[9], []⟩ ?_
  repeat first | (refine EffG.mk (And.intro ?_ ?_); focus ((repeat' (first | exact trivial | refine And.intro ?_ ?_)) <;> (first | omega | (simp only [hasTy, okP, lenD, D.ren, D.isCell, Option.getD, List.length_set, List.length_take, List.length_drop, List.length_append, List.length_replicate, List.length_map, List.length_cons, List.length_nil, Option.map] <;> omega) | with_reducible assumption | with_reducible rfl | decide); done)) | (refine And.intro ?_ ?_; focus ((repeat' (first | exact trivial | refine And.intro ?_ ?_)) <;> (first | omega | (simp only [hasTy, okP, lenD, D.ren, D.isCell, Option.getD, List.length_set, List.length_take, List.length_drop, List.length_append, List.length_replicate, List.length_map, List.length_cons, List.length_nil, Option.map] <;> omega) | with_reducible assumption | with_reducible rfl | decide); done)) | refine chkG (by kernel_rfl) ?_
  refine loopG Nat (fun n => [(1, .ptr 0 []), (2, .ptr 1 []), (3, .u8 (twI t n).2), (5, .i64 n)]) (fun n => [(0, some ⟨t16, .u8s (twI t n).1, true⟩), (1, some ⟨t16, .u8s (List.replicate 16 0), true⟩)]) 2
    (fun n => n ≤ 16) (fun n => 16 - n) 0 [0, 1] (Nat.zero_le _) ?_ ?_
  · exact viewG rfl ⟨rfl, rfl, rfl, rfl, trivial⟩ ⟨⟨_, rfl, rfl, rfl, id⟩, ⟨_, rfl, rfl, rfl, id⟩, trivial⟩ rfl
  intro n hn
  have hl := twI_length t n
  rw [ht] at hl
  repeat first | (refine EffG.mk (And.intro ?_ ?_); focus ((repeat' (first | exact trivial | refine And.intro ?_ ?_)) <;> (first | omega | (simp only [hasTy, okP, lenD, D.ren, D.isCell, Option.getD, List.length_set, List.length_take, List.length_drop, List.length_append, List.length_replicate, List.length_map, List.length_cons, List.length_nil, Option.map] <;> omega) | with_reducible assumption | with_reducible rfl | decide); done)) | (refine And.intro ?_ ?_; focus ((repeat' (first | exact trivial | refine And.intro ?_ ?_)) <;> (first | omega | (simp only [hasTy, okP, lenD, D.ren, D.isCell, Option.getD, List.length_set, List.length_take, List.length_drop, List.length_append, List.length_replicate, List.length_map, List.length_cons, List.length_nil, Option.map] <;> omega) | with_reducible assumption | with_reducible rfl | decide); done)) | refine chkG (by kernel_rfl) ?_
  refine Br.split (fun h => ?_) (fun h => ?_)
  · have hn : n < 16 := by have := of_decide_eq_true h; omega
    repeat first | (refine EffG.mk (And.intro ?_ ?_); focus ((repeat' (first | exact trivial | refine And.intro ?_ ?_)) <;> (first | omega | (simp only [hasTy, okP, lenD, D.ren, D.isCell, Option.getD, List.length_set, List.length_take, List.length_drop, List.length_append, List.length_replicate, List.length_map, List.length_cons, List.length_nil, Option.map] <;> omega) | with_reducible assumption | with_reducible rfl | decide); done)) | (refine And.intro ?_ ?_; focus ((repeat' (first | exact trivial | refine And.intro ?_ ?_)) <;> (first | omega | (simp only [hasTy, okP, lenD, D.ren, D.isCell, Option.getD, List.length_set, List.length_take, List.length_drop, List.length_append, List.length_replicate, List.length_map, List.length_cons, List.length_nil, Option.map] <;> omega) | with_reducible assumption | with_reducible rfl | decide); done)) | refine chkG (by kernel_rfl) ?_
    refine nextG (n + 1) [0, 1] ?_ ?_ ?_
    · omega
    · omega
    · exact viewG rfl ⟨rfl, rfl, rfl, rfl, trivial⟩ ⟨⟨_, rfl, rfl, rfl, id⟩, ⟨_, rfl, rfl, rfl, id⟩, trivial⟩ rfl
  · have hn : n = 16 := by have := of_decide_eq_false h; omega
    subst hn
    have hF : twF t = if (twI t 16).2 = 0 then (twI t 16).1 else (twI t 16).1.set 0 ((twI t 16).1.getD 0 0 ^^^ 135) := rfl
    have hFl := twF_length t
    rw [ht] at hFl
    generalize twF t = x at hF hFl ⊢
    generalize (twI t 16).1 = a at hF hl ⊢
    generalize (twI t 16).2 = c at hF ⊢
    refine joinG Unit (fun _ => [(1, .ptr 0 []), (2, .ptr 1 [])]) (fun _ => [(0, some ⟨t16, .u8s x, true⟩), (1, some ⟨t16, .u8s (List.replicate 16 0), true⟩)]) 2 (fun _ => True) ?_ ?_
    · repeat first | (refine EffG.mk (And.intro ?_ ?_); focus ((repeat' (first | exact trivial | refine And.intro ?_ ?_)) <;> (first | omega | (simp only [hasTy, okP, lenD, D.ren, D.isCell, Option.getD, List.length_set, List.length_take, List.length_drop, List.length_append, List.length_replicate, List.length_map, List.length_cons, List.length_nil, Option.map] <;> omega) | with_reducible assumption | with_reducible rfl | decide); done)) | (refine And.intro ?_ ?_; focus ((repeat' (first | exact trivial | refine And.intro ?_ ?_)) <;> (first | omega | (simp only [hasTy, okP, lenD, D.ren, D.isCell, Option.getD, List.length_set, List.length_take, List.length_drop, List.length_append, List.length_replicate, List.length_map, List.length_cons, List.length_nil, Option.map] <;> omega) | with_reducible assumption | with_reducible rfl | decide); done)) | refine chkG (by kernel_rfl) ?_
      refine Br.split (fun h => ?_) (fun h => ?_)
      · have h : ¬ c = 0 := by simpa using h
        rw [if_neg h] at hF
        repeat first | (refine EffG.mk (And.intro ?_ ?_); focus ((repeat' (first | exact trivial | refine And.intro ?_ ?_)) <;> (first | omega | (simp only [hasTy, okP, lenD, D.ren, D.isCell, Option.getD, List.length_set, List.length_take, List.length_drop, List.length_append, List.length_replicate, List.length_map, List.length_cons, List.length_nil, Option.map] <;> omega) | with_reducible assumption | with_reducible rfl | decide); done)) | (refine And.intro ?_ ?_; focus ((repeat' (first | exact trivial | refine And.intro ?_ ?_)) <;> (first | omega | (simp only [hasTy, okP, lenD, D.ren, D.isCell, Option.getD, List.length_set, List.length_take, List.length_drop, List.length_append, List.length_replicate, List.length_map, List.length_cons, List.length_nil, Option.map] <;> omega) | with_reducible assumption | with_reducible rfl | decide); done)) | refine chkG (by kernel_rfl) ?_
        refine meetG () [0, 1] trivial (viewG rfl ⟨rfl, rfl, trivial⟩ ⟨⟨_, rfl, rfl, congrArg D.u8s hF.symm, id⟩, ⟨_, rfl, rfl, rfl, id⟩, trivial⟩ rfl)
      · have h : c = 0 := by simpa using h
        rw [if_pos h] at hF
        refine meetG () [0, 1] trivial (viewG rfl ⟨rfl, rfl, trivial⟩ ⟨⟨_, rfl, rfl, congrArg D.u8s hF.symm, id⟩, ⟨_, rfl, rfl, rfl, id⟩, trivial⟩ rfl)
    intro _ _
    repeat first | (refine EffG.mk (And.intro ?_ ?_); focus ((repeat' (first | exact trivial | refine And.intro ?_ ?_)) <;> (first | omega | (simp only [hasTy, okP, lenD, D.ren, D.isCell, Option.getD, List.length_set, List.length_take, List.length_drop, List.length_append, List.length_replicate, List.length_map, List.length_cons, List.length_nil, Option.map] <;> omega) | with_reducible assumption | with_reducible rfl | decide); done)) | (refine And.intro ?_ ?_; focus ((repeat' (first | exact trivial | refine And.intro ?_ ?_)) <;> (first | omega | (simp only [hasTy, okP, lenD, D.ren, D.isCell, Option.getD, List.length_set, List.length_take, List.length_drop, List.length_append, List.length_replicate, List.length_map, List.length_cons, List.length_nil, Option.map] <;> omega) | with_reducible assumption | with_reducible rfl | decide); done)) | refine chkG (by kernel_rfl) ?_
    refine retG [] rfl rfl trivial rfl

theorem xxor_ac (s k : List (BitVec 8)) (hs : s.length = 16) (hk : k.length = 16) : AC Tryd.prog 143 [.u8s s, .u8s k] 0 [] ⟨.u8s (xorF s k), [], []⟩ := by
  refine ac_of tab mix Tryd.func143 rfl (by kernel_rfl) (by kernel_rfl) (by kernel_rfl) {} ?_
  repeat first | (refine EffG.mk (And.intro ?_ ?_); focus ((repeat' (first | exact trivial | refine And.intro ?_ ?_)) <;> (first | omega | (simp only [hasTy, okP, lenD, D.ren, D.isCell, Option.getD, List.length_set, List.length_take, List.length_drop, List.length_append, List.length_replicate, List.length_map, List.length_cons, List.length_nil, Option.map] <;> omega) | with_reducible assumption | with_reducible rfl | decide); done)) | (refine And.intro ?_ ?_; focus ((repeat' (first | exact trivial | refine And.intro ?_ ?_)) <;> (first | omega | (simp only [hasTy, okP, lenD, D.ren, D.isCell, Option.getD, List.length_set, List.length_take, List.length_drop, List.length_append, List.length_replicate, List.length_map, List.length_cons, List.length_nil, Option.map] <;> omega) | with_reducible assumption | with_reducible rfl | decide); done)) | refine chkG (by kernel_rfl) ?_
  refine loopG Nat (fun n => [(2, .ptr 0 []), (4, .ptr 2 []), (7, .u8s k), (8, .i64 n)]) (fun n => [(0, some ⟨t16, .u8s (xorI s k n), true⟩), (2, some ⟨t16, .u8s (List.replicate 16 0), true⟩)]) 3
    (fun n => n ≤ 16) (fun n => 16 - n) 0 [0, 1, 2] (Nat.zero_le _) ?_ ?_
  · exact viewG rfl ⟨rfl, rfl, rfl, rfl, trivial⟩ ⟨⟨_, rfl, rfl, rfl, id⟩, ⟨_, rfl, rfl, rfl, id⟩, trivial⟩ rfl
  intro n hn
  have hl := xorI_length s k n
  rw [hs] at hl
  repeat first | (refine EffG.mk (And.intro ?_ ?_); focus ((repeat' (first | exact trivial | refine And.intro ?_ ?_)) <;> (first | omega | (simp only [hasTy, okP, lenD, D.ren, D.isCell, Option.getD, List.length_set, List.length_take, List.length_drop, List.length_append, List.length_replicate, List.length_map, List.length_cons, List.length_nil, Option.map] <;> omega) | with_reducible assumption | with_reducible rfl | decide); done)) | (refine And.intro ?_ ?_; focus ((repeat' (first | exact trivial | refine And.intro ?_ ?_)) <;> (first | omega | (simp only [hasTy, okP, lenD, D.ren, D.isCell, Option.getD, List.length_set, List.length_take, List.length_drop, List.length_append, List.length_replicate, List.length_map, List.length_cons, List.length_nil, Option.map] <;> omega) | with_reducible assumption | with_reducible rfl | decide); done)) | refine chkG (by kernel_rfl) ?_
  refine Br.split (fun h => ?_) (fun h => ?_)
  · have hn : n < 16 := by have := of_decide_eq_true h; omega
    repeat first | (refine EffG.mk (And.intro ?_ ?_); focus ((repeat' (first | exact trivial | refine And.intro ?_ ?_)) <;> (first | omega | (simp only [hasTy, okP, lenD, D.ren, D.isCell, Option.getD, List.length_set, List.length_take, List.length_drop, List.length_append, List.length_replicate, List.length_map, List.length_cons, List.length_nil, Option.map] <;> omega) | with_reducible assumption | with_reducible rfl | decide); done)) | (refine And.intro ?_ ?_; focus ((repeat' (first | exact trivial | refine And.intro ?_ ?_)) <;> (first | omega | (simp only [hasTy, okP, lenD, D.ren, D.isCell, Option.getD, List.length_set, List.length_take, List.length_drop, List.length_append, List.length_replicate, List.length_map, List.length_cons, List.length_nil, Option.map] <;> omega) | with_reducible assumption | with_reducible rfl | decide); done)) | refine chkG (by kernel_rfl) ?_
    refine nextG (n + 1) [0, 1, 2] ?_ ?_ ?_
    · omega
    · omega
    · exact viewG rfl ⟨rfl, rfl, rfl, rfl, trivial⟩ ⟨⟨_, rfl, rfl, rfl, id⟩, ⟨_, rfl, rfl, rfl, id⟩, trivial⟩ rfl
  · have hn : n = 16 := by have := of_decide_eq_false h; omega
    subst hn
    repeat first | (refine EffG.mk (And.intro ?_ ?_); focus ((repeat' (first | exact trivial | refine And.intro ?_ ?_)) <;> (first | omega | (simp only [hasTy, okP, lenD, D.ren, D.isCell, Option.getD, List.length_set, List.length_take, List.length_drop, List.length_append, List.length_replicate, List.length_map, List.length_cons, List.length_nil, Option.map] <;> omega) | with_reducible assumption | with_reducible rfl | decide); done)) | (refine And.intro ?_ ?_; focus ((repeat' (first | exact trivial | refine And.intro ?_ ?_)) <;> (first | omega | (simp only [hasTy, okP, lenD, D.ren, D.isCell, Option.getD, List.length_set, List.length_take, List.length_drop, List.length_append, List.length_replicate, List.length_map, List.length_cons, List.length_nil, Option.map] <;> omega) | with_reducible assumption | with_reducible rfl | decide); done)) | refine chkG (by kernel_rfl) ?_
    refine retG [] rfl rfl trivial rfl

def firI (s : BitVec 64) : Nat → List (BitVec 8) × BitVec 64
  | 0 => (List.replicate 16 0, s)
  | n + 1 => ((firI s n).1.set n ((firI s n).2.setWidth 8), (firI s n).2 >>> 8)
def firF (s : BitVec 64) : List (BitVec 8) := (firI s 8).1
theorem firI_length (s : BitVec 64) : ∀ n, (firI s n).1.length = 16
  | 0 => rfl
  | n + 1 => by rw [firI, List.length_set, firI_length s n]
abbrev tX : Ty := .st [.cell, .cell]

theorem first_ac (k2 : List (List (BitVec 8))) (s : BitVec 64) (h2 : Rows 15 16 k2) :
    AC Tryd.prog 142 [.ptr 0 [], .u64 s] 3 [(0, some ⟨tX, .node [.ptr 1 [], .ptr 2 []], true⟩), (2, some ⟨tC, keysD k2, true⟩)] ⟨.u8s (encI k2 (firF s) 14), [], []⟩ := by
  refine ac_of tab mix Tryd.func142 rfl (by kernel_rfl) (by kernel_rfl) (by kernel_rfl) {} ?_
  repeat first | (refine EffG.mk (And.intro ?_ ?_); focus ((repeat' (first | exact trivial | refine And.intro ?_ ?_)) <;> (first | omega | (simp only [hasTy, okP, lenD, D.ren, D.isCell, Option.getD, List.length_set, List.length_take, List.length_drop, List.length_append, List.length_replicate, List.length_map, List.length_cons, List.length_nil, Option.map] <;> omega) | with_reducible assumption | with_reducible rfl | decide); done)) | (refine And.intro ?_ ?_; focus ((repeat' (first | exact trivial | refine And.intro ?_ ?_)) <;> (first | omega | (simp only [hasTy, okP, lenD, D.ren, D.isCell, Option.getD, List.length_set, List.length_take, List.length_drop, List.length_append, List.length_replicate, List.length_map, List.length_cons, List.length_nil, Option.map] <;> omega) | with_reducible assumption | with_reducible rfl | decide); done)) | refine chkG (by kernel_rfl) ?_
  refine loopG Nat (fun n => [(0, .ptr 0 []), (1, .u64 (firI s n).2), (4, .ptr 3 []), (5, .ptr 4 []), (7, .i64 n)])
    (fun n => [(0, some ⟨tX, .node [.ptr 1 [], .ptr 2 []], true⟩), (2, some ⟨tC, keysD k2, true⟩), (3, some ⟨t16, .u8s (List.replicate 16 0), true⟩), (4, some ⟨t16, .u8s (firI s n).1, true⟩)]) 5
    (fun n => n ≤ 8) (fun n => 8 - n) 0 [0, 1, 2, 3, 4] (Nat.zero_le _) ?_ ?_
  · exact viewG rfl ⟨rfl, rfl, rfl, rfl, rfl, trivial⟩ ⟨⟨_, rfl, rfl, rfl, id⟩, ⟨_, rfl, rfl, (ren_keysD _ k2).symm, id⟩, ⟨_, rfl, rfl, rfl, id⟩, ⟨_, rfl, rfl, rfl, id⟩, trivial⟩ rfl
  intro n hn
  have hl := firI_length s n
  repeat first | (refine EffG.mk (And.intro ?_ ?_); focus ((repeat' (first | exact trivial | refine And.intro ?_ ?_)) <;> (first | omega | (simp only [hasTy, okP, lenD, D.ren, D.isCell, Option.getD, List.length_set, List.length_take, List.length_drop, List.length_append, List.length_replicate, List.length_map, List.length_cons, List.length_nil, Option.map] <;> omega) | with_reducible assumption | with_reducible rfl | decide); done)) | (refine And.intro ?_ ?_; focus ((repeat' (first | exact trivial | refine And.intro ?_ ?_)) <;> (first | omega | (simp only [hasTy, okP, lenD, D.ren, D.isCell, Option.getD, List.length_set, List.length_take, List.length_drop, List.length_append, List.length_replicate, List.length_map, List.length_cons, List.length_nil, Option.map] <;> omega) | with_reducible assumption | with_reducible rfl | decide); done)) | refine chkG (by kernel_rfl) ?_
  refine Br.split (fun h => ?_) (fun h => ?_)
  · have hn : n < 8 := by have := of_decide_eq_true h; omega
    repeat first | (refine EffG.mk (And.intro ?_ ?_); focus ((repeat' (first | exact trivial | refine And.intro ?_ ?_)) <;> (first | omega | (simp only [hasTy, okP, lenD, D.ren, D.isCell, Option.getD, List.length_set, List.length_take, List.length_drop, List.length_append, List.length_replicate, List.length_map, List.length_cons, List.length_nil, Option.map] <;> omega) | with_reducible assumption | with_reducible rfl | decide); done)) | (refine And.intro ?_ ?_; focus ((repeat' (first | exact trivial | refine And.intro ?_ ?_)) <;> (first | omega | (simp only [hasTy, okP, lenD, D.ren, D.isCell, Option.getD, List.length_set, List.length_take, List.length_drop, List.length_append, List.length_replicate, List.length_map, List.length_cons, List.length_nil, Option.map] <;> omega) | with_reducible assumption | with_reducible rfl | decide); done)) | refine chkG (by kernel_rfl) ?_
    refine nextG (n + 1) [0, 1, 2, 3, 4] ?_ ?_ ?_
    · omega
    · omega
    · exact viewG rfl ⟨rfl, rfl, rfl, rfl, rfl, trivial⟩ ⟨⟨_, rfl, rfl, rfl, id⟩, ⟨_, rfl, rfl, (ren_keysD _ k2).symm, id⟩, ⟨_, rfl, rfl, rfl, id⟩, ⟨_, rfl, rfl, rfl, id⟩, trivial⟩ rfl
  · have hn : n = 8 := by have := of_decide_eq_false h; omega
    subst hn
    have he := encrypt_ac k2 (firF s) hl h2.1 h2.2
    have hel := encI_length k2 (firF s) hl 14
    have hf : (firI s 8).1 = firF s := rfl
    rw [hf] at hl ⊢
    generalize encI k2 (firF s) 14 = x at he hel ⊢
    generalize firF s = y at he hl ⊢
    repeat first | (refine EffG.mk (And.intro ?_ ?_); focus ((repeat' (first | exact trivial | refine And.intro ?_ ?_)) <;> (first | omega | (simp only [hasTy, okP, lenD, D.ren, D.isCell, Option.getD, List.length_set, List.length_take, List.length_drop, List.length_append, List.length_replicate, List.length_map, List.length_cons, List.length_nil, Option.map] <;> omega) | with_reducible assumption | with_reducible rfl | decide); done)) | (refine And.intro ?_ ?_; focus ((repeat' (first | exact trivial | refine And.intro ?_ ?_)) <;> (first | omega | (simp only [hasTy, okP, lenD, D.ren, D.isCell, Option.getD, List.length_set, List.length_take, List.length_drop, List.length_append, List.length_replicate, List.length_map, List.length_cons, List.length_nil, Option.map] <;> omega) | with_reducible assumption | with_reducible rfl | decide); done)) | refine chkG (by kernel_rfl) ?_
    refine callG he [2] rfl rfl ⟨⟨_, rfl, rfl, (ren_keysD _ k2).symm, id⟩, trivial⟩ rfl rfl ?_
    repeat first | (refine EffG.mk (And.intro ?_ ?_); focus ((repeat' (first | exact trivial | refine And.intro ?_ ?_)) <;> (first | omega | (simp only [hasTy, okP, lenD, D.ren, D.isCell, Option.getD, List.length_set, List.length_take, List.length_drop, List.length_append, List.length_replicate, List.length_map, List.length_cons, List.length_nil, Option.map] <;> omega) | with_reducible assumption | with_reducible rfl | decide); done)) | (refine And.intro ?_ ?_; focus ((repeat' (first | exact trivial | refine And.intro ?_ ?_)) <;> (first | omega | (simp only [hasTy, okP, lenD, D.ren, D.isCell, Option.getD, List.length_set, List.length_take, List.length_drop, List.length_append, List.length_replicate, List.length_map, List.length_cons, List.length_nil, Option.map] <;> omega) | with_reducible assumption | with_reducible rfl | decide); done)) | refine chkG (by kernel_rfl) ?_
    refine retG [0, 1, 2] rfl rfl ⟨⟨_, rfl, rfl, rfl, id⟩, ⟨_, rfl, rfl, (ren_keysD _ k2).symm, id⟩, trivial⟩ rfl
end Go.Proofs.YtodkhgofmgaafaaDoor.Av
