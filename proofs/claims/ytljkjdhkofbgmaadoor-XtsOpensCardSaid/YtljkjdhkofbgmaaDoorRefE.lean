import Derived.Test.YtljkjdhkofbgmaaDoorRefB
namespace Go.Proofs.YtljkjdhkofbgmaaDoor.Av
open Go
set_option linter.all false
set_option maxRecDepth 3000

/-! the document's way to encrypt -/
/-- bytes laid one by one: at the places ix 0, ix 1, .. the values v 0, v 1, .. -/
def setsI (ix : Nat → Nat) (v : Nat → BitVec 8) (s : List (BitVec 8)) : Nat → List (BitVec 8)
  | 0 => s
  | n + 1 => (setsI ix v s n).set (ix n) (v n)
theorem setsI_length (ix : Nat → Nat) (v : Nat → BitVec 8) (s : List (BitVec 8)) : ∀ n, (setsI ix v s n).length = s.length
  | 0 => rfl
  | n + 1 => by rw [setsI, List.length_set, setsI_length ix v s n]

def rsubV (s : List (BitVec 8)) (n : Nat) : BitVec 8 := sboxF (s.getD (4 * ((n / 4 + n % 4) % 4) + n % 4) 0)
def rmixV (t : List (BitVec 8)) (n : Nat) : BitVec 8 :=
  shiftF (t.getD (4 * (n / 4) + n % 4) 0) ^^^ shiftF (t.getD (4 * (n / 4) + (n % 4 + 1) % 4) 0) ^^^ t.getD (4 * (n / 4) + (n % 4 + 1) % 4) 0 ^^^ t.getD (4 * (n / 4) + (n % 4 + 2) % 4) 0 ^^^ t.getD (4 * (n / 4) + (n % 4 + 3) % 4) 0
def rsubF (s : List (BitVec 8)) : List (BitVec 8) := setsI id (rsubV s) (List.replicate 16 0) 16
def rmixF (t : List (BitVec 8)) : List (BitVec 8) := setsI id (rmixV t) t 16
def rencI (ks : List (List (BitVec 8))) (b : List (BitVec 8)) : Nat → List (BitVec 8)
  | 0 => xorF b (ks.getD 0 [])
  | n + 1 => xorF (if n + 1 < 14 then rmixF (rsubF (rencI ks b n)) else rsubF (rencI ks b n)) (ks.getD (n + 1) [])
theorem rsubF_length (s : List (BitVec 8)) : (rsubF s).length = 16 := setsI_length _ _ _ 16
theorem rmixF_length (s : List (BitVec 8)) : (rmixF s).length = s.length := setsI_length _ _ _ 16
theorem rencI_length (ks : List (List (BitVec 8))) (b : List (BitVec 8)) (hb : b.length = 16) : ∀ n, (rencI ks b n).length = 16
  | 0 => by rw [rencI, xorF_length, hb]
  | n + 1 => by
    rw [rencI, xorF_length]
    split
    · rw [rmixF_length, rsubF_length]
    · rw [rsubF_length]

set_option maxHeartbeats 4000000 in
theorem renc_ac (ks : List (List (BitVec 8))) (b : List (BitVec 8)) (hb : b.length = 16) (hr : Rows 15 16 ks) : AC Tryd.prog 50 [.node (ks.map .u8s), .u8s b] 0 gB ⟨.u8s (rencI ks b 14), [], []⟩ := by
  have h1 : ks.length = 15 := hr.1
  have hm : (ks.map D.u8s).length = 15 := by rw [List.length_map, h1]
  have hx := xorF_length b (ks.getD 0 [])
  rw [hb] at hx
  refine ac_of tab mix Tryd.func50 rfl (by kernel_rfl) (by kernel_rfl) (by kernel_rfl) ⟨[22], []⟩ ?_
  refine EffG.mk (And.intro hr.ty ?_)
  repeat first | (rw [nthD_u8s (l := ks)]; rotate_left; omega) | (refine EffG.mk (And.intro ?_ ?_); focus ((repeat' (first | exact trivial | refine And.intro ?_ ?_)) <;> (first | omega | (simp only [hasTy, okP, lenD, D.ren, D.isCell, Option.getD, List.length_set, List.length_take, List.length_drop, List.length_append, List.length_replicate, List.length_map, List.length_cons, List.length_nil, Option.map] <;> omega) | with_reducible assumption | with_reducible rfl | decide); done)) | (refine And.intro ?_ ?_; focus ((repeat' (first | exact trivial | refine And.intro ?_ ?_)) <;> (first | omega | (simp only [hasTy, okP, lenD, D.ren, D.isCell, Option.getD, List.length_set, List.length_take, List.length_drop, List.length_append, List.length_replicate, List.length_map, List.length_cons, List.length_nil, Option.map] <;> omega) | with_reducible assumption | with_reducible rfl | decide); done)) | refine chkG (by kernel_rfl) ?_
  refine callG (with_ac b (ks.getD 0 []) hb (hr.get (by omega))) [] rfl rfl trivial rfl rfl ?_
  repeat first | (refine EffG.mk (And.intro ?_ ?_); focus ((repeat' (first | exact trivial | refine And.intro ?_ ?_)) <;> (first | omega | (simp only [hasTy, okP, lenD, D.ren, D.isCell, Option.getD, List.length_set, List.length_take, List.length_drop, List.length_append, List.length_replicate, List.length_map, List.length_cons, List.length_nil, Option.map] <;> omega) | with_reducible assumption | with_reducible rfl | decide); done)) | (refine And.intro ?_ ?_; focus ((repeat' (first | exact trivial | refine And.intro ?_ ?_)) <;> (first | omega | (simp only [hasTy, okP, lenD, D.ren, D.isCell, Option.getD, List.length_set, List.length_take, List.length_drop, List.length_append, List.length_replicate, List.length_map, List.length_cons, List.length_nil, Option.map] <;> omega) | with_reducible assumption | with_reducible rfl | decide); done)) | refine chkG (by kernel_rfl) ?_
  refine loopG Nat (fun k => [(2, .ptr 0 []), (4, .ptr 2 []), (5, .ptr 3 []), (6, .i64 (k + 1 : Nat))])
    (fun k => [(0, some ⟨t15, .node (ks.map .u8s), true⟩), (2, some ⟨t16, .u8s (List.replicate 16 0), true⟩), (3, some ⟨t16, .u8s (rencI ks b k), true⟩), (gid 0, some ⟨t256, .u8s boxL, false⟩)]) 4 (fun k => k ≤ 14) (fun k => 14 - k) 0 [0, 1, 2, 3] (Nat.zero_le _) ?_ ?_
  · exact viewG rfl ⟨rfl, rfl, rfl, rfl, trivial⟩ ⟨⟨_, rfl, rfl, (ren_rows _ _).symm, id⟩, ⟨_, rfl, rfl, rfl, id⟩, ⟨_, rfl, rfl, rfl, id⟩, ⟨_, rfl, rfl, rfl, id⟩, trivial⟩ rfl
  intro k hk14
  have hl := rencI_length ks b hb k
  repeat first | (refine EffG.mk (And.intro ?_ ?_); focus ((repeat' (first | exact trivial | refine And.intro ?_ ?_)) <;> (first | omega | (simp only [hasTy, okP, lenD, D.ren, D.isCell, Option.getD, List.length_set, List.length_take, List.length_drop, List.length_append, List.length_replicate, List.length_map, List.length_cons, List.length_nil, Option.map] <;> omega) | with_reducible assumption | with_reducible rfl | decide); done)) | (refine And.intro ?_ ?_; focus ((repeat' (first | exact trivial | refine And.intro ?_ ?_)) <;> (first | omega | (simp only [hasTy, okP, lenD, D.ren, D.isCell, Option.getD, List.length_set, List.length_take, List.length_drop, List.length_append, List.length_replicate, List.length_map, List.length_cons, List.length_nil, Option.map] <;> omega) | with_reducible assumption | with_reducible rfl | decide); done)) | refine chkG (by kernel_rfl) ?_
  refine Br.split (fun h => ?_) (fun h => ?_)
  · have hk14 : k < 14 := by have := of_decide_eq_true h; omega
    have hc : rencI ks b (k + 1) = xorF (if k + 1 < 14 then rmixF (rsubF (rencI ks b k)) else rsubF (rencI ks b k)) (ks.getD (k + 1) []) := rfl
    generalize rencI ks b k = s at hl hc ⊢
    repeat first | (refine EffG.mk (And.intro ?_ ?_); focus ((repeat' (first | exact trivial | refine And.intro ?_ ?_)) <;> (first | omega | (simp only [hasTy, okP, lenD, D.ren, D.isCell, Option.getD, List.length_set, List.length_take, List.length_drop, List.length_append, List.length_replicate, List.length_map, List.length_cons, List.length_nil, Option.map] <;> omega) | with_reducible assumption | with_reducible rfl | decide); done)) | (refine And.intro ?_ ?_; focus ((repeat' (first | exact trivial | refine And.intro ?_ ?_)) <;> (first | omega | (simp only [hasTy, okP, lenD, D.ren, D.isCell, Option.getD, List.length_set, List.length_take, List.length_drop, List.length_append, List.length_replicate, List.length_map, List.length_cons, List.length_nil, Option.map] <;> omega) | with_reducible assumption | with_reducible rfl | decide); done)) | refine chkG (by kernel_rfl) ?_
    refine loopG Nat (fun c => [(2, .ptr 0 []), (4, .ptr 2 []), (5, .ptr 3 []), (6, .i64 (k + 1 : Nat)), (7, .ptr 4 []), (8, .i64 c)])
      (fun c => [(0, some ⟨t15, .node (ks.map .u8s), true⟩), (2, some ⟨t16, .u8s (List.replicate 16 0), true⟩), (3, some ⟨t16, .u8s s, true⟩), (4, some ⟨t16, .u8s (setsI id (rsubV s) (List.replicate 16 0) (4 * c)), true⟩), (gid 0, some ⟨t256, .u8s boxL, false⟩)]) 5 (fun c => c ≤ 4) (fun c => 4 - c) 0 [0, 1, 2, 3, 4] (Nat.zero_le _) ?_ ?_
    · exact viewG rfl ⟨rfl, rfl, rfl, rfl, rfl, rfl, trivial⟩ ⟨⟨_, rfl, rfl, (ren_rows _ _).symm, id⟩, ⟨_, rfl, rfl, rfl, id⟩, ⟨_, rfl, rfl, rfl, id⟩, ⟨_, rfl, rfl, rfl, id⟩, ⟨_, rfl, rfl, rfl, id⟩, trivial⟩ rfl
    intro c hc4
    repeat first | (refine EffG.mk (And.intro ?_ ?_); focus ((repeat' (first | exact trivial | refine And.intro ?_ ?_)) <;> (first | omega | (simp only [hasTy, okP, lenD, D.ren, D.isCell, Option.getD, List.length_set, List.length_take, List.length_drop, List.length_append, List.length_replicate, List.length_map, List.length_cons, List.length_nil, Option.map] <;> omega) | with_reducible assumption | with_reducible rfl | decide); done)) | (refine And.intro ?_ ?_; focus ((repeat' (first | exact trivial | refine And.intro ?_ ?_)) <;> (first | omega | (simp only [hasTy, okP, lenD, D.ren, D.isCell, Option.getD, List.length_set, List.length_take, List.length_drop, List.length_append, List.length_replicate, List.length_map, List.length_cons, List.length_nil, Option.map] <;> omega) | with_reducible assumption | with_reducible rfl | decide); done)) | refine chkG (by kernel_rfl) ?_
    refine Br.split (fun h => ?_) (fun h => ?_)
    · have hc4 : c < 4 := by have := of_decide_eq_true h; omega
      repeat first | (refine EffG.mk (And.intro ?_ ?_); focus ((repeat' (first | exact trivial | refine And.intro ?_ ?_)) <;> (first | omega | (simp only [hasTy, okP, lenD, D.ren, D.isCell, Option.getD, List.length_set, List.length_take, List.length_drop, List.length_append, List.length_replicate, List.length_map, List.length_cons, List.length_nil, Option.map] <;> omega) | with_reducible assumption | with_reducible rfl | decide); done)) | (refine And.intro ?_ ?_; focus ((repeat' (first | exact trivial | refine And.intro ?_ ?_)) <;> (first | omega | (simp only [hasTy, okP, lenD, D.ren, D.isCell, Option.getD, List.length_set, List.length_take, List.length_drop, List.length_append, List.length_replicate, List.length_map, List.length_cons, List.length_nil, Option.map] <;> omega) | with_reducible assumption | with_reducible rfl | decide); done)) | refine chkG (by kernel_rfl) ?_
      refine loopG Nat (fun r => [(2, .ptr 0 []), (4, .ptr 2 []), (5, .ptr 3 []), (6, .i64 (k + 1 : Nat)), (7, .ptr 4 []), (8, .i64 c), (9, .i64 r)])
        (fun r => [(0, some ⟨t15, .node (ks.map .u8s), true⟩), (2, some ⟨t16, .u8s (List.replicate 16 0), true⟩), (3, some ⟨t16, .u8s s, true⟩), (4, some ⟨t16, .u8s (setsI id (rsubV s) (List.replicate 16 0) (4 * c + r)), true⟩), (gid 0, some ⟨t256, .u8s boxL, false⟩)]) 5 (fun r => r ≤ 4) (fun r => 4 - r) 0 [0, 1, 2, 3, 4] (Nat.zero_le _) ?_ ?_
      · exact viewG rfl ⟨rfl, rfl, rfl, rfl, rfl, rfl, rfl, trivial⟩ ⟨⟨_, rfl, rfl, (ren_rows _ _).symm, id⟩, ⟨_, rfl, rfl, rfl, id⟩, ⟨_, rfl, rfl, rfl, id⟩, ⟨_, rfl, rfl, rfl, id⟩, ⟨_, rfl, rfl, rfl, id⟩, trivial⟩ rfl
      intro r hr4
      have hq := setsI_length id (rsubV s) (List.replicate 16 0) (4 * c + r)
      rw [List.length_replicate] at hq
      repeat first | (refine EffG.mk (And.intro ?_ ?_); focus ((repeat' (first | exact trivial | refine And.intro ?_ ?_)) <;> (first | omega | (simp only [hasTy, okP, lenD, D.ren, D.isCell, Option.getD, List.length_set, List.length_take, List.length_drop, List.length_append, List.length_replicate, List.length_map, List.length_cons, List.length_nil, Option.map] <;> omega) | with_reducible assumption | with_reducible rfl | decide); done)) | (refine And.intro ?_ ?_; focus ((repeat' (first | exact trivial | refine And.intro ?_ ?_)) <;> (first | omega | (simp only [hasTy, okP, lenD, D.ren, D.isCell, Option.getD, List.length_set, List.length_take, List.length_drop, List.length_append, List.length_replicate, List.length_map, List.length_cons, List.length_nil, Option.map] <;> omega) | with_reducible assumption | with_reducible rfl | decide); done)) | refine chkG (by kernel_rfl) ?_
      refine Br.split (fun h => ?_) (fun h => ?_)
      · have hr4 : r < 4 := by have := of_decide_eq_true h; omega
        have e1 : 4 * (c : Int) + (r : Int) = ((4 * c + r : Nat) : Int) := by omega
        have e2 : Int.tmod ((c : Int) + (r : Int)) 4 = (((c + r) % 4 : Nat) : Int) := Int.ofNat_tmod (c + r) 4
        have e3 : 4 * (((c + r) % 4 : Nat) : Int) + (r : Int) = ((4 * ((c + r) % 4) + r : Nat) : Int) := by omega
        repeat first | rw [e1] | rw [e2] | rw [e3] | rw [Int.toNat_natCast] | refine EffG.mk (And.intro (gx1 _) ?_) | refine EffG.mk (And.intro (gx2 _) ?_) | (refine EffG.mk (And.intro ?_ ?_); focus ((repeat' (first | exact trivial | refine And.intro ?_ ?_)) <;> (first | omega | (simp only [hasTy, okP, lenD, D.ren, D.isCell, Option.getD, List.length_set, List.length_take, List.length_drop, List.length_append, List.length_replicate, List.length_map, List.length_cons, List.length_nil, Option.map] <;> omega) | with_reducible assumption | with_reducible rfl | decide); done)) | (refine And.intro ?_ ?_; focus ((repeat' (first | exact trivial | refine And.intro ?_ ?_)) <;> (first | omega | (simp only [hasTy, okP, lenD, D.ren, D.isCell, Option.getD, List.length_set, List.length_take, List.length_drop, List.length_append, List.length_replicate, List.length_map, List.length_cons, List.length_nil, Option.map] <;> omega) | with_reducible assumption | with_reducible rfl | decide); done)) | refine chkG (by kernel_rfl) ?_
        refine nextG (r + 1) [0, 1, 2, 3, 4] ?_ ?_ ?_
        · omega
        · omega
        · refine viewG rfl ⟨rfl, rfl, rfl, rfl, rfl, rfl, rfl, trivial⟩ ⟨⟨_, rfl, rfl, (ren_rows _ _).symm, id⟩, ⟨_, rfl, rfl, rfl, id⟩, ⟨_, rfl, rfl, rfl, id⟩, ⟨_, rfl, rfl, congrArg D.u8s ?_, id⟩, ⟨_, rfl, rfl, rfl, id⟩, trivial⟩ rfl
          rw [← Nat.add_assoc, setsI, rsubV, show (4 * c + r) / 4 = c by omega, show (4 * c + r) % 4 = r by omega]
          rfl
      · have hr4 : r = 4 := by have := of_decide_eq_false h; omega
        subst hr4
        repeat first | (refine EffG.mk (And.intro ?_ ?_); focus ((repeat' (first | exact trivial | refine And.intro ?_ ?_)) <;> (first | omega | (simp only [hasTy, okP, lenD, D.ren, D.isCell, Option.getD, List.length_set, List.length_take, List.length_drop, List.length_append, List.length_replicate, List.length_map, List.length_cons, List.length_nil, Option.map] <;> omega) | with_reducible assumption | with_reducible rfl | decide); done)) | (refine And.intro ?_ ?_; focus ((repeat' (first | exact trivial | refine And.intro ?_ ?_)) <;> (first | omega | (simp only [hasTy, okP, lenD, D.ren, D.isCell, Option.getD, List.length_set, List.length_take, List.length_drop, List.length_append, List.length_replicate, List.length_map, List.length_cons, List.length_nil, Option.map] <;> omega) | with_reducible assumption | with_reducible rfl | decide); done)) | refine chkG (by kernel_rfl) ?_
        refine nextG (c + 1) [0, 1, 2, 3, 4] ?_ ?_ ?_
        · omega
        · omega
        · exact viewG rfl ⟨rfl, rfl, rfl, rfl, rfl, rfl, trivial⟩ ⟨⟨_, rfl, rfl, (ren_rows _ _).symm, id⟩, ⟨_, rfl, rfl, rfl, id⟩, ⟨_, rfl, rfl, rfl, id⟩, ⟨_, rfl, rfl, rfl, id⟩, ⟨_, rfl, rfl, rfl, id⟩, trivial⟩ rfl
    · have hc4 : c = 4 := by have := of_decide_eq_false h; omega
      subst hc4
      have ht := rsubF_length s
      have hu := rmixF_length (rsubF s)
      rw [ht] at hu
      have e0 : setsI id (rsubV s) (List.replicate 16 0) (4 * 4) = rsubF s := rfl
      rw [e0]
      generalize rsubF s = t at ht hc hu ⊢
      repeat first | (refine EffG.mk (And.intro ?_ ?_); focus ((repeat' (first | exact trivial | refine And.intro ?_ ?_)) <;> (first | omega | (simp only [hasTy, okP, lenD, D.ren, D.isCell, Option.getD, List.length_set, List.length_take, List.length_drop, List.length_append, List.length_replicate, List.length_map, List.length_cons, List.length_nil, Option.map] <;> omega) | with_reducible assumption | with_reducible rfl | decide); done)) | (refine And.intro ?_ ?_; focus ((repeat' (first | exact trivial | refine And.intro ?_ ?_)) <;> (first | omega | (simp only [hasTy, okP, lenD, D.ren, D.isCell, Option.getD, List.length_set, List.length_take, List.length_drop, List.length_append, List.length_replicate, List.length_map, List.length_cons, List.length_nil, Option.map] <;> omega) | with_reducible assumption | with_reducible rfl | decide); done)) | refine chkG (by kernel_rfl) ?_
      refine joinG Unit (fun _ => [(2, .ptr 0 []), (4, .ptr 2 []), (5, .ptr 3 []), (6, .i64 (k + 1 : Nat))])
        (fun _ => [(0, some ⟨t15, .node (ks.map .u8s), true⟩), (2, some ⟨t16, .u8s (List.replicate 16 0), true⟩), (3, some ⟨t16, .u8s (if k + 1 < 14 then rmixF t else t), true⟩), (gid 0, some ⟨t256, .u8s boxL, false⟩)]) 4 (fun _ => True) ?_ ?_
      · repeat first | (refine EffG.mk (And.intro ?_ ?_); focus ((repeat' (first | exact trivial | refine And.intro ?_ ?_)) <;> (first | omega | (simp only [hasTy, okP, lenD, D.ren, D.isCell, Option.getD, List.length_set, List.length_take, List.length_drop, List.length_append, List.length_replicate, List.length_map, List.length_cons, List.length_nil, Option.map] <;> omega) | with_reducible assumption | with_reducible rfl | decide); done)) | (refine And.intro ?_ ?_; focus ((repeat' (first | exact trivial | refine And.intro ?_ ?_)) <;> (first | omega | (simp only [hasTy, okP, lenD, D.ren, D.isCell, Option.getD, List.length_set, List.length_take, List.length_drop, List.length_append, List.length_replicate, List.length_map, List.length_cons, List.length_nil, Option.map] <;> omega) | with_reducible assumption | with_reducible rfl | decide); done)) | refine chkG (by kernel_rfl) ?_
        refine loopG Nat (fun c => [(2, .ptr 0 []), (4, .ptr 2 []), (5, .ptr 3 []), (6, .i64 (k + 1 : Nat)), (7, .ptr 4 []), (10, .i64 c)])
          (fun c => [(0, some ⟨t15, .node (ks.map .u8s), true⟩), (2, some ⟨t16, .u8s (List.replicate 16 0), true⟩), (3, some ⟨t16, .u8s (setsI id (rmixV t) t (4 * c)), true⟩), (4, some ⟨t16, .u8s t, true⟩), (gid 0, some ⟨t256, .u8s boxL, false⟩)]) 5 (fun c => c ≤ 4 ∧ (¬ k + 1 < 14 → c = 0)) (fun c => 4 - c) 0 [0, 1, 2, 3, 4] ⟨Nat.zero_le _, fun _ => rfl⟩ ?_ ?_
        · exact viewG rfl ⟨rfl, rfl, rfl, rfl, rfl, rfl, trivial⟩ ⟨⟨_, rfl, rfl, (ren_rows _ _).symm, id⟩, ⟨_, rfl, rfl, rfl, id⟩, ⟨_, rfl, rfl, rfl, id⟩, ⟨_, rfl, rfl, rfl, id⟩, ⟨_, rfl, rfl, rfl, id⟩, trivial⟩ rfl
        intro c ⟨hc4, hc0⟩
        repeat first | (refine EffG.mk (And.intro ?_ ?_); focus ((repeat' (first | exact trivial | refine And.intro ?_ ?_)) <;> (first | omega | (simp only [hasTy, okP, lenD, D.ren, D.isCell, Option.getD, List.length_set, List.length_take, List.length_drop, List.length_append, List.length_replicate, List.length_map, List.length_cons, List.length_nil, Option.map] <;> omega) | with_reducible assumption | with_reducible rfl | decide); done)) | (refine And.intro ?_ ?_; focus ((repeat' (first | exact trivial | refine And.intro ?_ ?_)) <;> (first | omega | (simp only [hasTy, okP, lenD, D.ren, D.isCell, Option.getD, List.length_set, List.length_take, List.length_drop, List.length_append, List.length_replicate, List.length_map, List.length_cons, List.length_nil, Option.map] <;> omega) | with_reducible assumption | with_reducible rfl | decide); done)) | refine chkG (by kernel_rfl) ?_
        refine Br.split (fun h => ?_) (fun h => ?_)
        · have hc4 : c < 4 := by have := of_decide_eq_true h; omega
          repeat first | (refine EffG.mk (And.intro ?_ ?_); focus ((repeat' (first | exact trivial | refine And.intro ?_ ?_)) <;> (first | omega | (simp only [hasTy, okP, lenD, D.ren, D.isCell, Option.getD, List.length_set, List.length_take, List.length_drop, List.length_append, List.length_replicate, List.length_map, List.length_cons, List.length_nil, Option.map] <;> omega) | with_reducible assumption | with_reducible rfl | decide); done)) | (refine And.intro ?_ ?_; focus ((repeat' (first | exact trivial | refine And.intro ?_ ?_)) <;> (first | omega | (simp only [hasTy, okP, lenD, D.ren, D.isCell, Option.getD, List.length_set, List.length_take, List.length_drop, List.length_append, List.length_replicate, List.length_map, List.length_cons, List.length_nil, Option.map] <;> omega) | with_reducible assumption | with_reducible rfl | decide); done)) | refine chkG (by kernel_rfl) ?_ | refine Br.yes rfl ?_
          refine Br.split (fun h => ?_) (fun h => ?_)
          · have hk : k + 1 < 14 := by have := of_decide_eq_true h; omega
            repeat first | (refine EffG.mk (And.intro ?_ ?_); focus ((repeat' (first | exact trivial | refine And.intro ?_ ?_)) <;> (first | omega | (simp only [hasTy, okP, lenD, D.ren, D.isCell, Option.getD, List.length_set, List.length_take, List.length_drop, List.length_append, List.length_replicate, List.length_map, List.length_cons, List.length_nil, Option.map] <;> omega) | with_reducible assumption | with_reducible rfl | decide); done)) | (refine And.intro ?_ ?_; focus ((repeat' (first | exact trivial | refine And.intro ?_ ?_)) <;> (first | omega | (simp only [hasTy, okP, lenD, D.ren, D.isCell, Option.getD, List.length_set, List.length_take, List.length_drop, List.length_append, List.length_replicate, List.length_map, List.length_cons, List.length_nil, Option.map] <;> omega) | with_reducible assumption | with_reducible rfl | decide); done)) | refine chkG (by kernel_rfl) ?_
            refine loopG Nat (fun r => [(2, .ptr 0 []), (4, .ptr 2 []), (5, .ptr 3 []), (6, .i64 (k + 1 : Nat)), (7, .ptr 4 []), (10, .i64 c), (11, .i64 r)])
              (fun r => [(0, some ⟨t15, .node (ks.map .u8s), true⟩), (2, some ⟨t16, .u8s (List.replicate 16 0), true⟩), (3, some ⟨t16, .u8s (setsI id (rmixV t) t (4 * c + r)), true⟩), (4, some ⟨t16, .u8s t, true⟩), (gid 0, some ⟨t256, .u8s boxL, false⟩)]) 5 (fun r => r ≤ 4) (fun r => 4 - r) 0 [0, 1, 2, 3, 4] (Nat.zero_le _) ?_ ?_
            · exact viewG rfl ⟨rfl, rfl, rfl, rfl, rfl, rfl, rfl, trivial⟩ ⟨⟨_, rfl, rfl, (ren_rows _ _).symm, id⟩, ⟨_, rfl, rfl, rfl, id⟩, ⟨_, rfl, rfl, rfl, id⟩, ⟨_, rfl, rfl, rfl, id⟩, ⟨_, rfl, rfl, rfl, id⟩, trivial⟩ rfl
            intro r hr4
            have hq := setsI_length id (rmixV t) t (4 * c + r)
            rw [ht] at hq
            repeat first | (refine EffG.mk (And.intro ?_ ?_); focus ((repeat' (first | exact trivial | refine And.intro ?_ ?_)) <;> (first | omega | (simp only [hasTy, okP, lenD, D.ren, D.isCell, Option.getD, List.length_set, List.length_take, List.length_drop, List.length_append, List.length_replicate, List.length_map, List.length_cons, List.length_nil, Option.map] <;> omega) | with_reducible assumption | with_reducible rfl | decide); done)) | (refine And.intro ?_ ?_; focus ((repeat' (first | exact trivial | refine And.intro ?_ ?_)) <;> (first | omega | (simp only [hasTy, okP, lenD, D.ren, D.isCell, Option.getD, List.length_set, List.length_take, List.length_drop, List.length_append, List.length_replicate, List.length_map, List.length_cons, List.length_nil, Option.map] <;> omega) | with_reducible assumption | with_reducible rfl | decide); done)) | refine chkG (by kernel_rfl) ?_
            refine Br.split (fun h => ?_) (fun h => ?_)
            · have hr4 : r < 4 := by have := of_decide_eq_true h; omega
              have e1 : 4 * (c : Int) + (r : Int) = ((4 * c + r : Nat) : Int) := by omega
              have m1 : Int.tmod ((r : Int) + 1) 4 = (((r + 1) % 4 : Nat) : Int) := Int.ofNat_tmod (r + 1) 4
              have m2 : Int.tmod ((r : Int) + 2) 4 = (((r + 2) % 4 : Nat) : Int) := Int.ofNat_tmod (r + 2) 4
              have m3 : Int.tmod ((r : Int) + 3) 4 = (((r + 3) % 4 : Nat) : Int) := Int.ofNat_tmod (r + 3) 4
              have n1 : 4 * (c : Int) + (((r + 1) % 4 : Nat) : Int) = ((4 * c + (r + 1) % 4 : Nat) : Int) := by omega
              have n2 : 4 * (c : Int) + (((r + 2) % 4 : Nat) : Int) = ((4 * c + (r + 2) % 4 : Nat) : Int) := by omega
              have n3 : 4 * (c : Int) + (((r + 3) % 4 : Nat) : Int) = ((4 * c + (r + 3) % 4 : Nat) : Int) := by omega
              repeat first | rw [e1] | rw [m1] | rw [m2] | rw [m3] | rw [n1] | rw [n2] | rw [n3] | rw [Int.toNat_natCast] | (refine EffG.mk (And.intro ?_ ?_); focus ((repeat' (first | exact trivial | refine And.intro ?_ ?_)) <;> (first | omega | (simp only [hasTy, okP, lenD, D.ren, D.isCell, Option.getD, List.length_set, List.length_take, List.length_drop, List.length_append, List.length_replicate, List.length_map, List.length_cons, List.length_nil, Option.map] <;> omega) | with_reducible assumption | with_reducible rfl | decide); done)) | (refine And.intro ?_ ?_; focus ((repeat' (first | exact trivial | refine And.intro ?_ ?_)) <;> (first | omega | (simp only [hasTy, okP, lenD, D.ren, D.isCell, Option.getD, List.length_set, List.length_take, List.length_drop, List.length_append, List.length_replicate, List.length_map, List.length_cons, List.length_nil, Option.map] <;> omega) | with_reducible assumption | with_reducible rfl | decide); done)) | refine chkG (by kernel_rfl) ?_
              refine callG (twice_ac _) [] rfl rfl trivial rfl rfl ?_
              repeat first | (refine EffG.mk (And.intro ?_ ?_); focus ((repeat' (first | exact trivial | refine And.intro ?_ ?_)) <;> (first | omega | (simp only [hasTy, okP, lenD, D.ren, D.isCell, Option.getD, List.length_set, List.length_take, List.length_drop, List.length_append, List.length_replicate, List.length_map, List.length_cons, List.length_nil, Option.map] <;> omega) | with_reducible assumption | with_reducible rfl | decide); done)) | (refine And.intro ?_ ?_; focus ((repeat' (first | exact trivial | refine And.intro ?_ ?_)) <;> (first | omega | (simp only [hasTy, okP, lenD, D.ren, D.isCell, Option.getD, List.length_set, List.length_take, List.length_drop, List.length_append, List.length_replicate, List.length_map, List.length_cons, List.length_nil, Option.map] <;> omega) | with_reducible assumption | with_reducible rfl | decide); done)) | refine chkG (by kernel_rfl) ?_
              refine callG (twice_ac _) [] rfl rfl trivial rfl rfl ?_
              repeat first | (refine EffG.mk (And.intro ?_ ?_); focus ((repeat' (first | exact trivial | refine And.intro ?_ ?_)) <;> (first | omega | (simp only [hasTy, okP, lenD, D.ren, D.isCell, Option.getD, List.length_set, List.length_take, List.length_drop, List.length_append, List.length_replicate, List.length_map, List.length_cons, List.length_nil, Option.map] <;> omega) | with_reducible assumption | with_reducible rfl | decide); done)) | (refine And.intro ?_ ?_; focus ((repeat' (first | exact trivial | refine And.intro ?_ ?_)) <;> (first | omega | (simp only [hasTy, okP, lenD, D.ren, D.isCell, Option.getD, List.length_set, List.length_take, List.length_drop, List.length_append, List.length_replicate, List.length_map, List.length_cons, List.length_nil, Option.map] <;> omega) | with_reducible assumption | with_reducible rfl | decide); done)) | refine chkG (by kernel_rfl) ?_
              refine nextG (r + 1) [0, 1, 2, 3, 4] ?_ ?_ ?_
              · omega
              · omega
              · refine viewG rfl ⟨rfl, rfl, rfl, rfl, rfl, rfl, rfl, trivial⟩ ⟨⟨_, rfl, rfl, (ren_rows _ _).symm, id⟩, ⟨_, rfl, rfl, rfl, id⟩, ⟨_, rfl, rfl, congrArg D.u8s ?_, id⟩, ⟨_, rfl, rfl, rfl, id⟩, ⟨_, rfl, rfl, rfl, id⟩, trivial⟩ rfl
                rw [← Nat.add_assoc, setsI, rmixV, show (4 * c + r) / 4 = c by omega, show (4 * c + r) % 4 = r by omega]
                rfl
            · have hr4 : r = 4 := by have := of_decide_eq_false h; omega
              subst hr4
              repeat first | (refine EffG.mk (And.intro ?_ ?_); focus ((repeat' (first | exact trivial | refine And.intro ?_ ?_)) <;> (first | omega | (simp only [hasTy, okP, lenD, D.ren, D.isCell, Option.getD, List.length_set, List.length_take, List.length_drop, List.length_append, List.length_replicate, List.length_map, List.length_cons, List.length_nil, Option.map] <;> omega) | with_reducible assumption | with_reducible rfl | decide); done)) | (refine And.intro ?_ ?_; focus ((repeat' (first | exact trivial | refine And.intro ?_ ?_)) <;> (first | omega | (simp only [hasTy, okP, lenD, D.ren, D.isCell, Option.getD, List.length_set, List.length_take, List.length_drop, List.length_append, List.length_replicate, List.length_map, List.length_cons, List.length_nil, Option.map] <;> omega) | with_reducible assumption | with_reducible rfl | decide); done)) | refine chkG (by kernel_rfl) ?_
              refine nextG (c + 1) [0, 1, 2, 3, 4] ?_ ?_ ?_
              · exact ⟨by omega, fun h => absurd hk h⟩
              · show 4 - (c + 1) < 4 - c
                omega
              · exact viewG rfl ⟨rfl, rfl, rfl, rfl, rfl, rfl, trivial⟩ ⟨⟨_, rfl, rfl, (ren_rows _ _).symm, id⟩, ⟨_, rfl, rfl, rfl, id⟩, ⟨_, rfl, rfl, rfl, id⟩, ⟨_, rfl, rfl, rfl, id⟩, ⟨_, rfl, rfl, rfl, id⟩, trivial⟩ rfl
          · have hk : ¬ k + 1 < 14 := by have := of_decide_eq_false h; omega
            have hc0 := hc0 hk
            subst hc0
            refine meetG () [0, 1, 2, 3] trivial ?_
            exact viewG rfl ⟨rfl, rfl, rfl, rfl, trivial⟩ ⟨⟨_, rfl, rfl, (ren_rows _ _).symm, id⟩, ⟨_, rfl, rfl, rfl, id⟩, ⟨_, rfl, rfl, congrArg D.u8s (if_neg hk).symm, id⟩, ⟨_, rfl, rfl, rfl, id⟩, trivial⟩ rfl
        · have hc4 : c = 4 := by have := of_decide_eq_false h; omega
          subst hc4
          have hk : k + 1 < 14 := Decidable.byContradiction fun h => by have := hc0 h; omega
          repeat first | (refine EffG.mk (And.intro ?_ ?_); focus ((repeat' (first | exact trivial | refine And.intro ?_ ?_)) <;> (first | omega | (simp only [hasTy, okP, lenD, D.ren, D.isCell, Option.getD, List.length_set, List.length_take, List.length_drop, List.length_append, List.length_replicate, List.length_map, List.length_cons, List.length_nil, Option.map] <;> omega) | with_reducible assumption | with_reducible rfl | decide); done)) | (refine And.intro ?_ ?_; focus ((repeat' (first | exact trivial | refine And.intro ?_ ?_)) <;> (first | omega | (simp only [hasTy, okP, lenD, D.ren, D.isCell, Option.getD, List.length_set, List.length_take, List.length_drop, List.length_append, List.length_replicate, List.length_map, List.length_cons, List.length_nil, Option.map] <;> omega) | with_reducible assumption | with_reducible rfl | decide); done)) | refine chkG (by kernel_rfl) ?_ | refine Br.no rfl ?_
          refine meetG () [0, 1, 2, 3] trivial ?_
          exact viewG rfl ⟨rfl, rfl, rfl, rfl, trivial⟩ ⟨⟨_, rfl, rfl, (ren_rows _ _).symm, id⟩, ⟨_, rfl, rfl, rfl, id⟩, ⟨_, rfl, rfl, congrArg D.u8s (if_pos hk).symm, id⟩, ⟨_, rfl, rfl, rfl, id⟩, trivial⟩ rfl
      intro _ _
      have hz : (if k + 1 < 14 then rmixF t else t).length = 16 := by
        split
        · exact hu
        · exact ht
      generalize (if k + 1 < 14 then rmixF t else t) = z at hz hc ⊢
      have hx2 := xorF_length z (ks.getD (k + 1) [])
      rw [hz] at hx2
      repeat first | (rw [nthD_u8s (l := ks)]; rotate_left; omega) | rw [Int.toNat_natCast (k + 1)] | (refine EffG.mk (And.intro ?_ ?_); focus ((repeat' (first | exact trivial | refine And.intro ?_ ?_)) <;> (first | omega | (simp only [hasTy, okP, lenD, D.ren, D.isCell, Option.getD, List.length_set, List.length_take, List.length_drop, List.length_append, List.length_replicate, List.length_map, List.length_cons, List.length_nil, Option.map] <;> omega) | with_reducible assumption | with_reducible rfl | decide); done)) | (refine And.intro ?_ ?_; focus ((repeat' (first | exact trivial | refine And.intro ?_ ?_)) <;> (first | omega | (simp only [hasTy, okP, lenD, D.ren, D.isCell, Option.getD, List.length_set, List.length_take, List.length_drop, List.length_append, List.length_replicate, List.length_map, List.length_cons, List.length_nil, Option.map] <;> omega) | with_reducible assumption | with_reducible rfl | decide); done)) | refine chkG (by kernel_rfl) ?_
      refine callG (with_ac z (ks.getD (k + 1) []) hz (hr.get (by omega))) [] rfl rfl trivial rfl rfl ?_
      repeat first | (refine EffG.mk (And.intro ?_ ?_); focus ((repeat' (first | exact trivial | refine And.intro ?_ ?_)) <;> (first | omega | (simp only [hasTy, okP, lenD, D.ren, D.isCell, Option.getD, List.length_set, List.length_take, List.length_drop, List.length_append, List.length_replicate, List.length_map, List.length_cons, List.length_nil, Option.map] <;> omega) | with_reducible assumption | with_reducible rfl | decide); done)) | (refine And.intro ?_ ?_; focus ((repeat' (first | exact trivial | refine And.intro ?_ ?_)) <;> (first | omega | (simp only [hasTy, okP, lenD, D.ren, D.isCell, Option.getD, List.length_set, List.length_take, List.length_drop, List.length_append, List.length_replicate, List.length_map, List.length_cons, List.length_nil, Option.map] <;> omega) | with_reducible assumption | with_reducible rfl | decide); done)) | refine chkG (by kernel_rfl) ?_
      refine nextG (k + 1) [0, 1, 2, 3] ?_ ?_ ?_
      · omega
      · omega
      · exact viewG rfl ⟨rfl, rfl, rfl, rfl, trivial⟩ ⟨⟨_, rfl, rfl, (ren_rows _ _).symm, id⟩, ⟨_, rfl, rfl, rfl, id⟩, ⟨_, rfl, rfl, congrArg D.u8s hc.symm, id⟩, ⟨_, rfl, rfl, rfl, id⟩, trivial⟩ rfl
  · have hk14 : k = 14 := by have := of_decide_eq_false h; omega
    subst hk14
    generalize rencI ks b 14 = z at hl ⊢
    repeat first | (refine EffG.mk (And.intro ?_ ?_); focus ((repeat' (first | exact trivial | refine And.intro ?_ ?_)) <;> (first | omega | (simp only [hasTy, okP, lenD, D.ren, D.isCell, Option.getD, List.length_set, List.length_take, List.length_drop, List.length_append, List.length_replicate, List.length_map, List.length_cons, List.length_nil, Option.map] <;> omega) | with_reducible assumption | with_reducible rfl | decide); done)) | (refine And.intro ?_ ?_; focus ((repeat' (first | exact trivial | refine And.intro ?_ ?_)) <;> (first | omega | (simp only [hasTy, okP, lenD, D.ren, D.isCell, Option.getD, List.length_set, List.length_take, List.length_drop, List.length_append, List.length_replicate, List.length_map, List.length_cons, List.length_nil, Option.map] <;> omega) | with_reducible assumption | with_reducible rfl | decide); done)) | refine chkG (by kernel_rfl) ?_
    refine retG [] rfl rfl ⟨⟨_, rfl, rfl, rfl, id⟩, trivial⟩ rfl
end Go.Proofs.YtljkjdhkofbgmaaDoor.Av
