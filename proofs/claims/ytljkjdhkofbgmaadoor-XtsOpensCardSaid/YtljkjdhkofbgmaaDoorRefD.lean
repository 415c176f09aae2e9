import Derived.Test.YtljkjdhkofbgmaaDoorRefF
namespace Go.Proofs.YtljkjdhkofbgmaaDoor.Av
open Go
set_option linter.all false
set_option maxRecDepth 3000

/-! the document's way to decrypt -/
def backI : Nat → List (BitVec 8)
  | 0 => List.replicate 256 0
  | n + 1 => (backI n).set (boxL.getD n 0).toNat (BitVec.ofInt 8 n)
theorem backI_length : ∀ n, (backI n).length = 256
  | 0 => List.length_replicate
  | n + 1 => by rw [backI, List.length_set, backI_length n]
theorem back_eq : backI 256 = unboxL := by kernel_rfl

theorem rback_ac : AC Tryd.prog 72 [] 0 gB ⟨.u8s unboxL, [], []⟩ := by
  refine ac_of tab mix Tryd.func72 rfl (by kernel_rfl) (by kernel_rfl) (by kernel_rfl) {} ?_
  repeat first | (refine EffG.mk (And.intro ?_ ?_); focus ((repeat' (first | exact trivial | refine And.intro ?_ ?_)) <;> (first | omega | (simp only [hasTy, okP, lenD, D.ren, D.isCell, Option.getD, List.length_set, List.length_take, List.length_drop, List.length_append, List.length_replicate, List.length_map, List.length_cons, List.length_nil, Option.map] <;> omega) | with_reducible assumption | with_reducible rfl | decide); done)) | (refine And.intro ?_ ?_; focus ((repeat' (first | exact trivial | refine And.intro ?_ ?_)) <;> (first | omega | (simp only [hasTy, okP, lenD, D.ren, D.isCell, Option.getD, List.length_set, List.length_take, List.length_drop, List.length_append, List.length_replicate, List.length_map, List.length_cons, List.length_nil, Option.map] <;> omega) | with_reducible assumption | with_reducible rfl | decide); done)) | refine chkG (by kernel_rfl) ?_
  refine loopG Nat (fun n => [(0, .ptr 0 []), (1, .ptr 1 []), (2, .i64 n)])
    (fun n => [(0, some ⟨t256, .u8s (List.replicate 256 0), true⟩), (1, some ⟨t256, .u8s (backI n), true⟩), (gid 0, some ⟨t256, .u8s boxL, false⟩)]) 2 (fun n => n ≤ 256) (fun n => 256 - n) 0 [0, 1] (Nat.zero_le _) ?_ ?_
  · exact viewG rfl ⟨rfl, rfl, rfl, trivial⟩ ⟨⟨_, rfl, rfl, rfl, id⟩, ⟨_, rfl, rfl, rfl, id⟩, ⟨_, rfl, rfl, rfl, id⟩, trivial⟩ rfl
  intro n hn
  have hl := backI_length n
  have hb := boxL_length
  repeat first | (refine EffG.mk (And.intro ?_ ?_); focus ((repeat' (first | exact trivial | refine And.intro ?_ ?_)) <;> (first | omega | (simp only [hasTy, okP, lenD, D.ren, D.isCell, Option.getD, List.length_set, List.length_take, List.length_drop, List.length_append, List.length_replicate, List.length_map, List.length_cons, List.length_nil, Option.map] <;> omega) | with_reducible assumption | with_reducible rfl | decide); done)) | (refine And.intro ?_ ?_; focus ((repeat' (first | exact trivial | refine And.intro ?_ ?_)) <;> (first | omega | (simp only [hasTy, okP, lenD, D.ren, D.isCell, Option.getD, List.length_set, List.length_take, List.length_drop, List.length_append, List.length_replicate, List.length_map, List.length_cons, List.length_nil, Option.map] <;> omega) | with_reducible assumption | with_reducible rfl | decide); done)) | refine chkG (by kernel_rfl) ?_
  refine Br.split (fun h => ?_) (fun h => ?_)
  · have hn : n < 256 := by have := of_decide_eq_true h; omega
    have hx := (boxL.getD n 0).isLt
    repeat first | rw [Int.toNat_natCast] | (refine EffG.mk (And.intro ?_ ?_); focus ((repeat' (first | exact trivial | refine And.intro ?_ ?_)) <;> (first | omega | (simp only [hasTy, okP, lenD, D.ren, D.isCell, Option.getD, List.length_set, List.length_take, List.length_drop, List.length_append, List.length_replicate, List.length_map, List.length_cons, List.length_nil, Option.map] <;> omega) | with_reducible assumption | with_reducible rfl | decide); done)) | (refine And.intro ?_ ?_; focus ((repeat' (first | exact trivial | refine And.intro ?_ ?_)) <;> (first | omega | (simp only [hasTy, okP, lenD, D.ren, D.isCell, Option.getD, List.length_set, List.length_take, List.length_drop, List.length_append, List.length_replicate, List.length_map, List.length_cons, List.length_nil, Option.map] <;> omega) | with_reducible assumption | with_reducible rfl | decide); done)) | refine chkG (by kernel_rfl) ?_
    refine nextG (n + 1) [0, 1] ?_ ?_ ?_
    · omega
    · omega
    · exact viewG rfl ⟨rfl, rfl, rfl, trivial⟩ ⟨⟨_, rfl, rfl, rfl, id⟩, ⟨_, rfl, rfl, rfl, id⟩, ⟨_, rfl, rfl, rfl, id⟩, trivial⟩ rfl
  · have hn : n = 256 := by have := of_decide_eq_false h; omega
    subst hn
    rw [back_eq] at hl ⊢
    repeat first | (refine EffG.mk (And.intro ?_ ?_); focus ((repeat' (first | exact trivial | refine And.intro ?_ ?_)) <;> (first | omega | (simp only [hasTy, okP, lenD, D.ren, D.isCell, Option.getD, List.length_set, List.length_take, List.length_drop, List.length_append, List.length_replicate, List.length_map, List.length_cons, List.length_nil, Option.map] <;> omega) | with_reducible assumption | with_reducible rfl | decide); done)) | (refine And.intro ?_ ?_; focus ((repeat' (first | exact trivial | refine And.intro ?_ ?_)) <;> (first | omega | (simp only [hasTy, okP, lenD, D.ren, D.isCell, Option.getD, List.length_set, List.length_take, List.length_drop, List.length_append, List.length_replicate, List.length_map, List.length_cons, List.length_nil, Option.map] <;> omega) | with_reducible assumption | with_reducible rfl | decide); done)) | refine chkG (by kernel_rfl) ?_
    refine retG [] rfl rfl ⟨⟨_, rfl, rfl, rfl, id⟩, trivial⟩ rfl

def t14F (a : BitVec 8) : BitVec 8 := 0 ^^^ shiftF a ^^^ shiftF (shiftF a) ^^^ shiftF (shiftF (shiftF a))
def t11F (a : BitVec 8) : BitVec 8 := 0 ^^^ a ^^^ shiftF a ^^^ shiftF (shiftF (shiftF a))
def t13F (a : BitVec 8) : BitVec 8 := 0 ^^^ a ^^^ shiftF (shiftF a) ^^^ shiftF (shiftF (shiftF a))
def t9F (a : BitVec 8) : BitVec 8 := 0 ^^^ a ^^^ shiftF (shiftF (shiftF a))
def runmixV (t : List (BitVec 8)) (n : Nat) : BitVec 8 :=
  t14F (t.getD (4 * (n / 4) + n % 4) 0) ^^^ t11F (t.getD (4 * (n / 4) + (n % 4 + 1) % 4) 0) ^^^ t13F (t.getD (4 * (n / 4) + (n % 4 + 2) % 4) 0) ^^^ t9F (t.getD (4 * (n / 4) + (n % 4 + 3) % 4) 0)
def runmixF (t : List (BitVec 8)) : List (BitVec 8) := setsI id (runmixV t) t 16
def rusubX (n : Nat) : Nat := 4 * ((n / 4 + n % 4) % 4) + n % 4
def rusubV (un t : List (BitVec 8)) (n : Nat) : BitVec 8 := un.getD (t.getD (4 * (n / 4) + n % 4) 0).toNat 0
def rusubF (un t : List (BitVec 8)) : List (BitVec 8) := setsI rusubX (rusubV un t) t 16
def rdecT (ks : List (List (BitVec 8))) (k : Nat) (s : List (BitVec 8)) : List (BitVec 8) := if 14 - k < 14 then runmixF (xorF s (ks.getD (14 - k) [])) else xorF s (ks.getD (14 - k) [])
def rdecI (un : List (BitVec 8)) (ks : List (List (BitVec 8))) (b : List (BitVec 8)) : Nat → List (BitVec 8)
  | 0 => b
  | k + 1 => rusubF un (rdecT ks k (rdecI un ks b k))
def rdecF (un : List (BitVec 8)) (ks : List (List (BitVec 8))) (b : List (BitVec 8)) : List (BitVec 8) := xorF (rdecI un ks b 14) (ks.getD 0 [])
theorem runmixF_length (t : List (BitVec 8)) : (runmixF t).length = t.length := setsI_length _ _ _ 16
theorem rusubF_length (un t : List (BitVec 8)) : (rusubF un t).length = t.length := setsI_length _ _ _ 16
theorem rdecT_length (ks : List (List (BitVec 8))) (k : Nat) (s : List (BitVec 8)) : (rdecT ks k s).length = s.length := by
  unfold rdecT
  split
  · rw [runmixF_length, xorF_length]
  · rw [xorF_length]
theorem rdecI_length (un : List (BitVec 8)) (ks : List (List (BitVec 8))) (b : List (BitVec 8)) (hb : b.length = 16) : ∀ k, (rdecI un ks b k).length = 16
  | 0 => hb
  | k + 1 => by rw [rdecI, rusubF_length, rdecT_length, rdecI_length un ks b hb k]

theorem ux1 (b : BitVec 8) {un : List (BitVec 8)} (h : un.length = 256) : ((b.toNat : Int).toNat < un.length ∧ True) := by
  have := b.isLt
  rw [h, Int.toNat_natCast]
  exact ⟨by omega, trivial⟩

set_option maxHeartbeats 4000000 in
theorem rdec_ac (ks : List (List (BitVec 8))) (un b : List (BitVec 8)) (hun : un.length = 256) (hb : b.length = 16) (hr : Rows 15 16 ks) :
    AC Tryd.prog 73 [.node (ks.map .u8s), .u8s un, .u8s b] 0 [] ⟨.u8s (rdecF un ks b), [], []⟩ := by
  have h1 : ks.length = 15 := hr.1
  have hm : (ks.map D.u8s).length = 15 := by rw [List.length_map, h1]
  refine ac_of tab mix Tryd.func73 rfl (by kernel_rfl) (by kernel_rfl) (by kernel_rfl) ⟨[15], []⟩ ?_
  refine EffG.mk (And.intro hr.ty ?_)
  repeat first | (refine EffG.mk (And.intro ?_ ?_); focus ((repeat' (first | exact trivial | refine And.intro ?_ ?_)) <;> (first | omega | (simp only [hasTy, okP, lenD, D.ren, D.isCell, Option.getD, List.length_set, List.length_take, List.length_drop, List.length_append, List.length_replicate, List.length_map, List.length_cons, List.length_nil, Option.map] <;> omega) | with_reducible assumption | with_reducible rfl | decide); done)) | (refine And.intro ?_ ?_; focus ((repeat' (first | exact trivial | refine And.intro ?_ ?_)) <;> (first | omega | (simp only [hasTy, okP, lenD, D.ren, D.isCell, Option.getD, List.length_set, List.length_take, List.length_drop, List.length_append, List.length_replicate, List.length_map, List.length_cons, List.length_nil, Option.map] <;> omega) | with_reducible assumption | with_reducible rfl | decide); done)) | refine chkG (by kernel_rfl) ?_
  refine loopG Nat (fun k => [(3, .ptr 0 []), (4, .ptr 1 []), (6, .ptr 3 []), (7, .ptr 4 []), (8, .i64 (14 - k : Nat))])
    (fun k => [(0, some ⟨t15, .node (ks.map .u8s), true⟩), (1, some ⟨t256, .u8s un, true⟩), (3, some ⟨t16, .u8s (List.replicate 16 0), true⟩), (4, some ⟨t16, .u8s (rdecI un ks b k), true⟩)]) 5 (fun k => k ≤ 14) (fun k => 14 - k) 0 [0, 1, 2, 3, 4] (Nat.zero_le _) ?_ ?_
  · exact viewG rfl ⟨rfl, rfl, rfl, rfl, rfl, trivial⟩ ⟨⟨_, rfl, rfl, (ren_rows _ _).symm, id⟩, ⟨_, rfl, rfl, rfl, id⟩, ⟨_, rfl, rfl, rfl, id⟩, ⟨_, rfl, rfl, rfl, id⟩, trivial⟩ rfl
  intro k hk14
  have hl := rdecI_length un ks b hb k
  repeat first | (refine EffG.mk (And.intro ?_ ?_); focus ((repeat' (first | exact trivial | refine And.intro ?_ ?_)) <;> (first | omega | (simp only [hasTy, okP, lenD, D.ren, D.isCell, Option.getD, List.length_set, List.length_take, List.length_drop, List.length_append, List.length_replicate, List.length_map, List.length_cons, List.length_nil, Option.map] <;> omega) | with_reducible assumption | with_reducible rfl | decide); done)) | (refine And.intro ?_ ?_; focus ((repeat' (first | exact trivial | refine And.intro ?_ ?_)) <;> (first | omega | (simp only [hasTy, okP, lenD, D.ren, D.isCell, Option.getD, List.length_set, List.length_take, List.length_drop, List.length_append, List.length_replicate, List.length_map, List.length_cons, List.length_nil, Option.map] <;> omega) | with_reducible assumption | with_reducible rfl | decide); done)) | refine chkG (by kernel_rfl) ?_
  refine Br.split (fun h => ?_) (fun h => ?_)
  · have hk14 : k < 14 := by have := of_decide_eq_true h; omega
    have hc : rdecI un ks b (k + 1) = rusubF un (rdecT ks k (rdecI un ks b k)) := rfl
    have hT : rdecT ks k (rdecI un ks b k) = if 14 - k < 14 then runmixF (xorF (rdecI un ks b k) (ks.getD (14 - k) [])) else xorF (rdecI un ks b k) (ks.getD (14 - k) []) := rfl
    have hTl := rdecT_length ks k (rdecI un ks b k)
    rw [hl] at hTl
    generalize rdecT ks k (rdecI un ks b k) = z at hc hT hTl
    generalize rdecI un ks b k = s at hl hT ⊢
    have ht := xorF_length s (ks.getD (14 - k) [])
    rw [hl] at ht
    repeat first | (rw [nthD_u8s (l := ks)]; rotate_left; omega) | rw [Int.toNat_natCast (14 - k)] | (refine EffG.mk (And.intro ?_ ?_); focus ((repeat' (first | exact trivial | refine And.intro ?_ ?_)) <;> (first | omega | (simp only [hasTy, okP, lenD, D.ren, D.isCell, Option.getD, List.length_set, List.length_take, List.length_drop, List.length_append, List.length_replicate, List.length_map, List.length_cons, List.length_nil, Option.map] <;> omega) | with_reducible assumption | with_reducible rfl | decide); done)) | (refine And.intro ?_ ?_; focus ((repeat' (first | exact trivial | refine And.intro ?_ ?_)) <;> (first | omega | (simp only [hasTy, okP, lenD, D.ren, D.isCell, Option.getD, List.length_set, List.length_take, List.length_drop, List.length_append, List.length_replicate, List.length_map, List.length_cons, List.length_nil, Option.map] <;> omega) | with_reducible assumption | with_reducible rfl | decide); done)) | refine chkG (by kernel_rfl) ?_
    refine callG (with_ac s (ks.getD (14 - k) []) hl (hr.get (by omega))) [] rfl rfl trivial rfl rfl ?_
    generalize xorF s (ks.getD (14 - k) []) = t at ht hT ⊢
    repeat first | (refine EffG.mk (And.intro ?_ ?_); focus ((repeat' (first | exact trivial | refine And.intro ?_ ?_)) <;> (first | omega | (simp only [hasTy, okP, lenD, D.ren, D.isCell, Option.getD, List.length_set, List.length_take, List.length_drop, List.length_append, List.length_replicate, List.length_map, List.length_cons, List.length_nil, Option.map] <;> omega) | with_reducible assumption | with_reducible rfl | decide); done)) | (refine And.intro ?_ ?_; focus ((repeat' (first | exact trivial | refine And.intro ?_ ?_)) <;> (first | omega | (simp only [hasTy, okP, lenD, D.ren, D.isCell, Option.getD, List.length_set, List.length_take, List.length_drop, List.length_append, List.length_replicate, List.length_map, List.length_cons, List.length_nil, Option.map] <;> omega) | with_reducible assumption | with_reducible rfl | decide); done)) | refine chkG (by kernel_rfl) ?_
    refine joinG Unit (fun _ => [(3, .ptr 0 []), (4, .ptr 1 []), (6, .ptr 3 []), (7, .ptr 4 []), (8, .i64 (14 - k : Nat)), (9, .ptr 5 [])])
      (fun _ => [(0, some ⟨t15, .node (ks.map .u8s), true⟩), (1, some ⟨t256, .u8s un, true⟩), (3, some ⟨t16, .u8s (List.replicate 16 0), true⟩), (4, some ⟨t16, .u8s z, true⟩), (5, some ⟨t16, .u8s t, true⟩)]) 6 (fun _ => True) ?_ ?_
    · repeat first | (refine EffG.mk (And.intro ?_ ?_); focus ((repeat' (first | exact trivial | refine And.intro ?_ ?_)) <;> (first | omega | (simp only [hasTy, okP, lenD, D.ren, D.isCell, Option.getD, List.length_set, List.length_take, List.length_drop, List.length_append, List.length_replicate, List.length_map, List.length_cons, List.length_nil, Option.map] <;> omega) | with_reducible assumption | with_reducible rfl | decide); done)) | (refine And.intro ?_ ?_; focus ((repeat' (first | exact trivial | refine And.intro ?_ ?_)) <;> (first | omega | (simp only [hasTy, okP, lenD, D.ren, D.isCell, Option.getD, List.length_set, List.length_take, List.length_drop, List.length_append, List.length_replicate, List.length_map, List.length_cons, List.length_nil, Option.map] <;> omega) | with_reducible assumption | with_reducible rfl | decide); done)) | refine chkG (by kernel_rfl) ?_
      refine loopG Nat (fun c => [(3, .ptr 0 []), (4, .ptr 1 []), (6, .ptr 3 []), (7, .ptr 4 []), (8, .i64 (14 - k : Nat)), (9, .ptr 5 []), (10, .i64 c)])
        (fun c => [(0, some ⟨t15, .node (ks.map .u8s), true⟩), (1, some ⟨t256, .u8s un, true⟩), (3, some ⟨t16, .u8s (List.replicate 16 0), true⟩), (4, some ⟨t16, .u8s (setsI id (runmixV t) t (4 * c)), true⟩), (5, some ⟨t16, .u8s t, true⟩)]) 6 (fun c => c ≤ 4 ∧ (¬ 14 - k < 14 → c = 0)) (fun c => 4 - c) 0 [0, 1, 2, 3, 4, 5] ⟨Nat.zero_le _, fun _ => rfl⟩ ?_ ?_
      · exact viewG rfl ⟨rfl, rfl, rfl, rfl, rfl, rfl, rfl, trivial⟩ ⟨⟨_, rfl, rfl, (ren_rows _ _).symm, id⟩, ⟨_, rfl, rfl, rfl, id⟩, ⟨_, rfl, rfl, rfl, id⟩, ⟨_, rfl, rfl, rfl, id⟩, ⟨_, rfl, rfl, rfl, id⟩, trivial⟩ rfl
      intro c ⟨hc4, hc0⟩
      repeat first | (refine EffG.mk (And.intro ?_ ?_); focus ((repeat' (first | exact trivial | refine And.intro ?_ ?_)) <;> (first | omega | (simp only [hasTy, okP, lenD, D.ren, D.isCell, Option.getD, List.length_set, List.length_take, List.length_drop, List.length_append, List.length_replicate, List.length_map, List.length_cons, List.length_nil, Option.map] <;> omega) | with_reducible assumption | with_reducible rfl | decide); done)) | (refine And.intro ?_ ?_; focus ((repeat' (first | exact trivial | refine And.intro ?_ ?_)) <;> (first | omega | (simp only [hasTy, okP, lenD, D.ren, D.isCell, Option.getD, List.length_set, List.length_take, List.length_drop, List.length_append, List.length_replicate, List.length_map, List.length_cons, List.length_nil, Option.map] <;> omega) | with_reducible assumption | with_reducible rfl | decide); done)) | refine chkG (by kernel_rfl) ?_
      refine Br.split (fun h => ?_) (fun h => ?_)
      · have hc4 : c < 4 := by have := of_decide_eq_true h; omega
        repeat first | (refine EffG.mk (And.intro ?_ ?_); focus ((repeat' (first | exact trivial | refine And.intro ?_ ?_)) <;> (first | omega | (simp only [hasTy, okP, lenD, D.ren, D.isCell, Option.getD, List.length_set, List.length_take, List.length_drop, List.length_append, List.length_replicate, List.length_map, List.length_cons, List.length_nil, Option.map] <;> omega) | with_reducible assumption | with_reducible rfl | decide); done)) | (refine And.intro ?_ ?_; focus ((repeat' (first | exact trivial | refine And.intro ?_ ?_)) <;> (first | omega | (simp only [hasTy, okP, lenD, D.ren, D.isCell, Option.getD, List.length_set, List.length_take, List.length_drop, List.length_append, List.length_replicate, List.length_map, List.length_cons, List.length_nil, Option.map] <;> omega) | with_reducible assumption | with_reducible rfl | decide); done)) | refine chkG (by kernel_rfl) ?_ | refine Br.yes rfl ?_
        refine Br.split (fun h => ?_) (fun h => ?_)
        · have hk : 14 - k < 14 := by have := of_decide_eq_true h; omega
          repeat first | (refine EffG.mk (And.intro ?_ ?_); focus ((repeat' (first | exact trivial | refine And.intro ?_ ?_)) <;> (first | omega | (simp only [hasTy, okP, lenD, D.ren, D.isCell, Option.getD, List.length_set, List.length_take, List.length_drop, List.length_append, List.length_replicate, List.length_map, List.length_cons, List.length_nil, Option.map] <;> omega) | with_reducible assumption | with_reducible rfl | decide); done)) | (refine And.intro ?_ ?_; focus ((repeat' (first | exact trivial | refine And.intro ?_ ?_)) <;> (first | omega | (simp only [hasTy, okP, lenD, D.ren, D.isCell, Option.getD, List.length_set, List.length_take, List.length_drop, List.length_append, List.length_replicate, List.length_map, List.length_cons, List.length_nil, Option.map] <;> omega) | with_reducible assumption | with_reducible rfl | decide); done)) | refine chkG (by kernel_rfl) ?_
          refine loopG Nat (fun r => [(3, .ptr 0 []), (4, .ptr 1 []), (6, .ptr 3 []), (7, .ptr 4 []), (8, .i64 (14 - k : Nat)), (9, .ptr 5 []), (10, .i64 c), (11, .i64 r)])
            (fun r => [(0, some ⟨t15, .node (ks.map .u8s), true⟩), (1, some ⟨t256, .u8s un, true⟩), (3, some ⟨t16, .u8s (List.replicate 16 0), true⟩), (4, some ⟨t16, .u8s (setsI id (runmixV t) t (4 * c + r)), true⟩), (5, some ⟨t16, .u8s t, true⟩)]) 6 (fun r => r ≤ 4) (fun r => 4 - r) 0 [0, 1, 2, 3, 4, 5] (Nat.zero_le _) ?_ ?_
          · exact viewG rfl ⟨rfl, rfl, rfl, rfl, rfl, rfl, rfl, rfl, trivial⟩ ⟨⟨_, rfl, rfl, (ren_rows _ _).symm, id⟩, ⟨_, rfl, rfl, rfl, id⟩, ⟨_, rfl, rfl, rfl, id⟩, ⟨_, rfl, rfl, rfl, id⟩, ⟨_, rfl, rfl, rfl, id⟩, trivial⟩ rfl
          intro r hr4
          have hq := setsI_length id (runmixV t) t (4 * c + r)
          rw [ht] at hq
          repeat first | (refine EffG.mk (And.intro ?_ ?_); focus ((repeat' (first | exact trivial | refine And.intro ?_ ?_)) <;> (first | omega | (simp only [hasTy, okP, lenD, D.ren, D.isCell, Option.getD, List.length_set, List.length_take, List.length_drop, List.length_append, List.length_replicate, List.length_map, List.length_cons, List.length_nil, Option.map] <;> omega) | with_reducible assumption | with_reducible rfl | decide); done)) | (refine And.intro ?_ ?_; focus ((repeat' (first | exact trivial | refine And.intro ?_ ?_)) <;> (first | omega | (simp only [hasTy, okP, lenD, D.ren, D.isCell, Option.getD, List.length_set, List.length_take, List.length_drop, List.length_append, List.length_replicate, List.length_map, List.length_cons, List.length_nil, Option.map] <;> omega) | with_reducible assumption | with_reducible rfl | decide); done)) | refine chkG (by kernel_rfl) ?_
          refine Br.split (fun h => ?_) (fun h => ?_)
          · have hr4 : r < 4 := by have := of_decide_eq_true h; omega
            have e1 : 4 * (c : Int) + (r : Int) = ((4 * c + r : Nat) : Int) := by omega
            have m1 : Int.tmod ((r : Int) + 1) 4 = (((r + 1) % 4 : Nat) : Int) := Int.ofNat_tmod (r + 1) 4
            have m2 : Int.tmod ((r : Int) + 2) 4 = (((r + 2) % 4 : Nat) : Int) := Int.ofNat_tmod (r + 2) 4
            have m3 : Int.tmod ((r : Int) + 3) 4 = (((r + 3) % 4 : Nat) : Int) := Int.ofNat_tmod (r + 3) 4
            have n1 : 4 * (c : Int) + (((r + 1) % 4 : Nat) : Int) = ((4 * c + (r + 1) % 4 : Nat) : Int) := by omega
            have n2 : 4 * (c : Int) + (((r + 2) % 4 : Nat) : Int) = ((4 * c + (r + 2) % 4 : Nat) : Int) := by omega
            have n3 : 4 * (c : Int) + (((r + 3) % 4 : Nat) : Int) = ((4 * c + (r + 3) % 4 : Nat) : Int) := by omega
            repeat first | rw [e1] | rw [m1] | rw [m2] | rw [m3] | rw [n1] | rw [n2] | rw [n3] | rw [Int.toNat_natCast] | (refine EffG.mk (And.intro ?_ ?_); focus ((repeat' (first | exact trivial | refine And.intro ?_ ?_)) <;> (first | omega | (simp only [hasTy, okP, lenD, D.ren, D.isCell, Option.getD, List.length_set, List.length_take, List.length_drop, List.length_append, List.length_replicate, List.length_map, List.length_cons, List.length_nil, Option.map] <;> omega) | with_reducible assumption | with_reducible rfl | decide); done)) | (refine And.intro ?_ ?_; focus ((repeat' (first | exact trivial | refine And.intro ?_ ?_)) <;> (first | omega | (simp only [hasTy, okP, lenD, D.ren, D.isCell, Option.getD, List.length_set, List.length_take, List.length_drop, List.length_append, List.length_replicate, List.length_map, List.length_cons, List.length_nil, Option.map] <;> omega) | with_reducible assumption | with_reducible rfl | decide); done)) | refine chkG (by kernel_rfl) ?_
            refine callG (times14_ac _) [] rfl rfl trivial rfl rfl ?_
            repeat first | (refine EffG.mk (And.intro ?_ ?_); focus ((repeat' (first | exact trivial | refine And.intro ?_ ?_)) <;> (first | omega | (simp only [hasTy, okP, lenD, D.ren, D.isCell, Option.getD, List.length_set, List.length_take, List.length_drop, List.length_append, List.length_replicate, List.length_map, List.length_cons, List.length_nil, Option.map] <;> omega) | with_reducible assumption | with_reducible rfl | decide); done)) | (refine And.intro ?_ ?_; focus ((repeat' (first | exact trivial | refine And.intro ?_ ?_)) <;> (first | omega | (simp only [hasTy, okP, lenD, D.ren, D.isCell, Option.getD, List.length_set, List.length_take, List.length_drop, List.length_append, List.length_replicate, List.length_map, List.length_cons, List.length_nil, Option.map] <;> omega) | with_reducible assumption | with_reducible rfl | decide); done)) | refine chkG (by kernel_rfl) ?_
            refine callG (times11_ac _) [] rfl rfl trivial rfl rfl ?_
            repeat first | (refine EffG.mk (And.intro ?_ ?_); focus ((repeat' (first | exact trivial | refine And.intro ?_ ?_)) <;> (first | omega | (simp only [hasTy, okP, lenD, D.ren, D.isCell, Option.getD, List.length_set, List.length_take, List.length_drop, List.length_append, List.length_replicate, List.length_map, List.length_cons, List.length_nil, Option.map] <;> omega) | with_reducible assumption | with_reducible rfl | decide); done)) | (refine And.intro ?_ ?_; focus ((repeat' (first | exact trivial | refine And.intro ?_ ?_)) <;> (first | omega | (simp only [hasTy, okP, lenD, D.ren, D.isCell, Option.getD, List.length_set, List.length_take, List.length_drop, List.length_append, List.length_replicate, List.length_map, List.length_cons, List.length_nil, Option.map] <;> omega) | with_reducible assumption | with_reducible rfl | decide); done)) | refine chkG (by kernel_rfl) ?_
            refine callG (times13_ac _) [] rfl rfl trivial rfl rfl ?_
            repeat first | (refine EffG.mk (And.intro ?_ ?_); focus ((repeat' (first | exact trivial | refine And.intro ?_ ?_)) <;> (first | omega | (simp only [hasTy, okP, lenD, D.ren, D.isCell, Option.getD, List.length_set, List.length_take, List.length_drop, List.length_append, List.length_replicate, List.length_map, List.length_cons, List.length_nil, Option.map] <;> omega) | with_reducible assumption | with_reducible rfl | decide); done)) | (refine And.intro ?_ ?_; focus ((repeat' (first | exact trivial | refine And.intro ?_ ?_)) <;> (first | omega | (simp only [hasTy, okP, lenD, D.ren, D.isCell, Option.getD, List.length_set, List.length_take, List.length_drop, List.length_append, List.length_replicate, List.length_map, List.length_cons, List.length_nil, Option.map] <;> omega) | with_reducible assumption | with_reducible rfl | decide); done)) | refine chkG (by kernel_rfl) ?_
            refine callG (times9_ac _) [] rfl rfl trivial rfl rfl ?_
            repeat first | (refine EffG.mk (And.intro ?_ ?_); focus ((repeat' (first | exact trivial | refine And.intro ?_ ?_)) <;> (first | omega | (simp only [hasTy, okP, lenD, D.ren, D.isCell, Option.getD, List.length_set, List.length_take, List.length_drop, List.length_append, List.length_replicate, List.length_map, List.length_cons, List.length_nil, Option.map] <;> omega) | with_reducible assumption | with_reducible rfl | decide); done)) | (refine And.intro ?_ ?_; focus ((repeat' (first | exact trivial | refine And.intro ?_ ?_)) <;> (first | omega | (simp only [hasTy, okP, lenD, D.ren, D.isCell, Option.getD, List.length_set, List.length_take, List.length_drop, List.length_append, List.length_replicate, List.length_map, List.length_cons, List.length_nil, Option.map] <;> omega) | with_reducible assumption | with_reducible rfl | decide); done)) | refine chkG (by kernel_rfl) ?_
            refine nextG (r + 1) [0, 1, 2, 3, 4, 5] ?_ ?_ ?_
            · omega
            · omega
            · refine viewG rfl ⟨rfl, rfl, rfl, rfl, rfl, rfl, rfl, rfl, trivial⟩ ⟨⟨_, rfl, rfl, (ren_rows _ _).symm, id⟩, ⟨_, rfl, rfl, rfl, id⟩, ⟨_, rfl, rfl, rfl, id⟩, ⟨_, rfl, rfl, congrArg D.u8s ?_, id⟩, ⟨_, rfl, rfl, rfl, id⟩, trivial⟩ rfl
              rw [← Nat.add_assoc, setsI, runmixV, show (4 * c + r) / 4 = c by omega, show (4 * c + r) % 4 = r by omega]
              rfl
          · have hr4 : r = 4 := by have := of_decide_eq_false h; omega
            subst hr4
            repeat first | (refine EffG.mk (And.intro ?_ ?_); focus ((repeat' (first | exact trivial | refine And.intro ?_ ?_)) <;> (first | omega | (simp only [hasTy, okP, lenD, D.ren, D.isCell, Option.getD, List.length_set, List.length_take, List.length_drop, List.length_append, List.length_replicate, List.length_map, List.length_cons, List.length_nil, Option.map] <;> omega) | with_reducible assumption | with_reducible rfl | decide); done)) | (refine And.intro ?_ ?_; focus ((repeat' (first | exact trivial | refine And.intro ?_ ?_)) <;> (first | omega | (simp only [hasTy, okP, lenD, D.ren, D.isCell, Option.getD, List.length_set, List.length_take, List.length_drop, List.length_append, List.length_replicate, List.length_map, List.length_cons, List.length_nil, Option.map] <;> omega) | with_reducible assumption | with_reducible rfl | decide); done)) | refine chkG (by kernel_rfl) ?_
            refine nextG (c + 1) [0, 1, 2, 3, 4, 5] ?_ ?_ ?_
            · exact ⟨by omega, fun h => absurd hk h⟩
            · show 4 - (c + 1) < 4 - c
              omega
            · exact viewG rfl ⟨rfl, rfl, rfl, rfl, rfl, rfl, rfl, trivial⟩ ⟨⟨_, rfl, rfl, (ren_rows _ _).symm, id⟩, ⟨_, rfl, rfl, rfl, id⟩, ⟨_, rfl, rfl, rfl, id⟩, ⟨_, rfl, rfl, rfl, id⟩, ⟨_, rfl, rfl, rfl, id⟩, trivial⟩ rfl
        · have hk : ¬ 14 - k < 14 := by have := of_decide_eq_false h; omega
          have hc0 := hc0 hk
          subst hc0
          rw [if_neg hk] at hT
          refine meetG () [0, 1, 2, 3, 4, 5] trivial ?_
          exact viewG rfl ⟨rfl, rfl, rfl, rfl, rfl, rfl, trivial⟩ ⟨⟨_, rfl, rfl, (ren_rows _ _).symm, id⟩, ⟨_, rfl, rfl, rfl, id⟩, ⟨_, rfl, rfl, rfl, id⟩, ⟨_, rfl, rfl, congrArg D.u8s hT.symm, id⟩, ⟨_, rfl, rfl, rfl, id⟩, trivial⟩ rfl
      · have hc4 : c = 4 := by have := of_decide_eq_false h; omega
        subst hc4
        have hk : 14 - k < 14 := Decidable.byContradiction fun h => by have := hc0 h; omega
        rw [if_pos hk] at hT
        repeat first | (refine EffG.mk (And.intro ?_ ?_); focus ((repeat' (first | exact trivial | refine And.intro ?_ ?_)) <;> (first | omega | (simp only [hasTy, okP, lenD, D.ren, D.isCell, Option.getD, List.length_set, List.length_take, List.length_drop, List.length_append, List.length_replicate, List.length_map, List.length_cons, List.length_nil, Option.map] <;> omega) | with_reducible assumption | with_reducible rfl | decide); done)) | (refine And.intro ?_ ?_; focus ((repeat' (first | exact trivial | refine And.intro ?_ ?_)) <;> (first | omega | (simp only [hasTy, okP, lenD, D.ren, D.isCell, Option.getD, List.length_set, List.length_take, List.length_drop, List.length_append, List.length_replicate, List.length_map, List.length_cons, List.length_nil, Option.map] <;> omega) | with_reducible assumption | with_reducible rfl | decide); done)) | refine chkG (by kernel_rfl) ?_ | refine Br.no rfl ?_
        refine meetG () [0, 1, 2, 3, 4, 5] trivial ?_
        exact viewG rfl ⟨rfl, rfl, rfl, rfl, rfl, rfl, trivial⟩ ⟨⟨_, rfl, rfl, (ren_rows _ _).symm, id⟩, ⟨_, rfl, rfl, rfl, id⟩, ⟨_, rfl, rfl, rfl, id⟩, ⟨_, rfl, rfl, congrArg D.u8s hT.symm, id⟩, ⟨_, rfl, rfl, rfl, id⟩, trivial⟩ rfl
    intro _ _
    repeat first | (refine EffG.mk (And.intro ?_ ?_); focus ((repeat' (first | exact trivial | refine And.intro ?_ ?_)) <;> (first | omega | (simp only [hasTy, okP, lenD, D.ren, D.isCell, Option.getD, List.length_set, List.length_take, List.length_drop, List.length_append, List.length_replicate, List.length_map, List.length_cons, List.length_nil, Option.map] <;> omega) | with_reducible assumption | with_reducible rfl | decide); done)) | (refine And.intro ?_ ?_; focus ((repeat' (first | exact trivial | refine And.intro ?_ ?_)) <;> (first | omega | (simp only [hasTy, okP, lenD, D.ren, D.isCell, Option.getD, List.length_set, List.length_take, List.length_drop, List.length_append, List.length_replicate, List.length_map, List.length_cons, List.length_nil, Option.map] <;> omega) | with_reducible assumption | with_reducible rfl | decide); done)) | refine chkG (by kernel_rfl) ?_
    refine loopG Nat (fun c => [(3, .ptr 0 []), (4, .ptr 1 []), (6, .ptr 3 []), (7, .ptr 4 []), (8, .i64 (14 - k : Nat)), (9, .ptr 5 []), (16, .i64 c)])
      (fun c => [(0, some ⟨t15, .node (ks.map .u8s), true⟩), (1, some ⟨t256, .u8s un, true⟩), (3, some ⟨t16, .u8s (List.replicate 16 0), true⟩), (4, some ⟨t16, .u8s (setsI rusubX (rusubV un z) z (4 * c)), true⟩), (5, some ⟨t16, .u8s z, true⟩)]) 6 (fun c => c ≤ 4) (fun c => 4 - c) 0 [0, 1, 2, 3, 4, 5] (Nat.zero_le _) ?_ ?_
    · exact viewG rfl ⟨rfl, rfl, rfl, rfl, rfl, rfl, rfl, trivial⟩ ⟨⟨_, rfl, rfl, (ren_rows _ _).symm, id⟩, ⟨_, rfl, rfl, rfl, id⟩, ⟨_, rfl, rfl, rfl, id⟩, ⟨_, rfl, rfl, rfl, id⟩, ⟨_, rfl, rfl, rfl, id⟩, trivial⟩ rfl
    intro c hc4
    repeat first | (refine EffG.mk (And.intro ?_ ?_); focus ((repeat' (first | exact trivial | refine And.intro ?_ ?_)) <;> (first | omega | (simp only [hasTy, okP, lenD, D.ren, D.isCell, Option.getD, List.length_set, List.length_take, List.length_drop, List.length_append, List.length_replicate, List.length_map, List.length_cons, List.length_nil, Option.map] <;> omega) | with_reducible assumption | with_reducible rfl | decide); done)) | (refine And.intro ?_ ?_; focus ((repeat' (first | exact trivial | refine And.intro ?_ ?_)) <;> (first | omega | (simp only [hasTy, okP, lenD, D.ren, D.isCell, Option.getD, List.length_set, List.length_take, List.length_drop, List.length_append, List.length_replicate, List.length_map, List.length_cons, List.length_nil, Option.map] <;> omega) | with_reducible assumption | with_reducible rfl | decide); done)) | refine chkG (by kernel_rfl) ?_
    refine Br.split (fun h => ?_) (fun h => ?_)
    · have hc4 : c < 4 := by have := of_decide_eq_true h; omega
      repeat first | (refine EffG.mk (And.intro ?_ ?_); focus ((repeat' (first | exact trivial | refine And.intro ?_ ?_)) <;> (first | omega | (simp only [hasTy, okP, lenD, D.ren, D.isCell, Option.getD, List.length_set, List.length_take, List.length_drop, List.length_append, List.length_replicate, List.length_map, List.length_cons, List.length_nil, Option.map] <;> omega) | with_reducible assumption | with_reducible rfl | decide); done)) | (refine And.intro ?_ ?_; focus ((repeat' (first | exact trivial | refine And.intro ?_ ?_)) <;> (first | omega | (simp only [hasTy, okP, lenD, D.ren, D.isCell, Option.getD, List.length_set, List.length_take, List.length_drop, List.length_append, List.length_replicate, List.length_map, List.length_cons, List.length_nil, Option.map] <;> omega) | with_reducible assumption | with_reducible rfl | decide); done)) | refine chkG (by kernel_rfl) ?_
      refine loopG Nat (fun r => [(3, .ptr 0 []), (4, .ptr 1 []), (6, .ptr 3 []), (7, .ptr 4 []), (8, .i64 (14 - k : Nat)), (9, .ptr 5 []), (16, .i64 c), (17, .i64 r)])
        (fun r => [(0, some ⟨t15, .node (ks.map .u8s), true⟩), (1, some ⟨t256, .u8s un, true⟩), (3, some ⟨t16, .u8s (List.replicate 16 0), true⟩), (4, some ⟨t16, .u8s (setsI rusubX (rusubV un z) z (4 * c + r)), true⟩), (5, some ⟨t16, .u8s z, true⟩)]) 6 (fun r => r ≤ 4) (fun r => 4 - r) 0 [0, 1, 2, 3, 4, 5] (Nat.zero_le _) ?_ ?_
      · exact viewG rfl ⟨rfl, rfl, rfl, rfl, rfl, rfl, rfl, rfl, trivial⟩ ⟨⟨_, rfl, rfl, (ren_rows _ _).symm, id⟩, ⟨_, rfl, rfl, rfl, id⟩, ⟨_, rfl, rfl, rfl, id⟩, ⟨_, rfl, rfl, rfl, id⟩, ⟨_, rfl, rfl, rfl, id⟩, trivial⟩ rfl
      intro r hr4
      have hq := setsI_length rusubX (rusubV un z) z (4 * c + r)
      rw [hTl] at hq
      repeat first | (refine EffG.mk (And.intro ?_ ?_); focus ((repeat' (first | exact trivial | refine And.intro ?_ ?_)) <;> (first | omega | (simp only [hasTy, okP, lenD, D.ren, D.isCell, Option.getD, List.length_set, List.length_take, List.length_drop, List.length_append, List.length_replicate, List.length_map, List.length_cons, List.length_nil, Option.map] <;> omega) | with_reducible assumption | with_reducible rfl | decide); done)) | (refine And.intro ?_ ?_; focus ((repeat' (first | exact trivial | refine And.intro ?_ ?_)) <;> (first | omega | (simp only [hasTy, okP, lenD, D.ren, D.isCell, Option.getD, List.length_set, List.length_take, List.length_drop, List.length_append, List.length_replicate, List.length_map, List.length_cons, List.length_nil, Option.map] <;> omega) | with_reducible assumption | with_reducible rfl | decide); done)) | refine chkG (by kernel_rfl) ?_
      refine Br.split (fun h => ?_) (fun h => ?_)
      · have hr4 : r < 4 := by have := of_decide_eq_true h; omega
        have e1 : 4 * (c : Int) + (r : Int) = ((4 * c + r : Nat) : Int) := by omega
        have e2 : Int.tmod ((c : Int) + (r : Int)) 4 = (((c + r) % 4 : Nat) : Int) := Int.ofNat_tmod (c + r) 4
        have e3 : 4 * (((c + r) % 4 : Nat) : Int) + (r : Int) = ((4 * ((c + r) % 4) + r : Nat) : Int) := by omega
        repeat first | rw [e1] | rw [e2] | rw [e3] | rw [Int.toNat_natCast] | refine EffG.mk (And.intro (gx1 _) ?_) | refine EffG.mk (And.intro (ux1 _ hun) ?_) | (refine EffG.mk (And.intro ?_ ?_); focus ((repeat' (first | exact trivial | refine And.intro ?_ ?_)) <;> (first | omega | (simp only [hasTy, okP, lenD, D.ren, D.isCell, Option.getD, List.length_set, List.length_take, List.length_drop, List.length_append, List.length_replicate, List.length_map, List.length_cons, List.length_nil, Option.map] <;> omega) | with_reducible assumption | with_reducible rfl | decide); done)) | (refine And.intro ?_ ?_; focus ((repeat' (first | exact trivial | refine And.intro ?_ ?_)) <;> (first | omega | (simp only [hasTy, okP, lenD, D.ren, D.isCell, Option.getD, List.length_set, List.length_take, List.length_drop, List.length_append, List.length_replicate, List.length_map, List.length_cons, List.length_nil, Option.map] <;> omega) | with_reducible assumption | with_reducible rfl | decide); done)) | refine chkG (by kernel_rfl) ?_
        refine nextG (r + 1) [0, 1, 2, 3, 4, 5] ?_ ?_ ?_
        · omega
        · omega
        · refine viewG rfl ⟨rfl, rfl, rfl, rfl, rfl, rfl, rfl, rfl, trivial⟩ ⟨⟨_, rfl, rfl, (ren_rows _ _).symm, id⟩, ⟨_, rfl, rfl, rfl, id⟩, ⟨_, rfl, rfl, rfl, id⟩, ⟨_, rfl, rfl, congrArg D.u8s ?_, id⟩, ⟨_, rfl, rfl, rfl, id⟩, trivial⟩ rfl
          rw [← Nat.add_assoc, setsI, rusubV, rusubX, show (4 * c + r) / 4 = c by omega, show (4 * c + r) % 4 = r by omega]
      · have hr4 : r = 4 := by have := of_decide_eq_false h; omega
        subst hr4
        repeat first | (refine EffG.mk (And.intro ?_ ?_); focus ((repeat' (first | exact trivial | refine And.intro ?_ ?_)) <;> (first | omega | (simp only [hasTy, okP, lenD, D.ren, D.isCell, Option.getD, List.length_set, List.length_take, List.length_drop, List.length_append, List.length_replicate, List.length_map, List.length_cons, List.length_nil, Option.map] <;> omega) | with_reducible assumption | with_reducible rfl | decide); done)) | (refine And.intro ?_ ?_; focus ((repeat' (first | exact trivial | refine And.intro ?_ ?_)) <;> (first | omega | (simp only [hasTy, okP, lenD, D.ren, D.isCell, Option.getD, List.length_set, List.length_take, List.length_drop, List.length_append, List.length_replicate, List.length_map, List.length_cons, List.length_nil, Option.map] <;> omega) | with_reducible assumption | with_reducible rfl | decide); done)) | refine chkG (by kernel_rfl) ?_
        refine nextG (c + 1) [0, 1, 2, 3, 4, 5] ?_ ?_ ?_
        · omega
        · omega
        · exact viewG rfl ⟨rfl, rfl, rfl, rfl, rfl, rfl, rfl, trivial⟩ ⟨⟨_, rfl, rfl, (ren_rows _ _).symm, id⟩, ⟨_, rfl, rfl, rfl, id⟩, ⟨_, rfl, rfl, rfl, id⟩, ⟨_, rfl, rfl, rfl, id⟩, ⟨_, rfl, rfl, rfl, id⟩, trivial⟩ rfl
    · have hc4 : c = 4 := by have := of_decide_eq_false h; omega
      subst hc4
      repeat first | (refine EffG.mk (And.intro ?_ ?_); focus ((repeat' (first | exact trivial | refine And.intro ?_ ?_)) <;> (first | omega | (simp only [hasTy, okP, lenD, D.ren, D.isCell, Option.getD, List.length_set, List.length_take, List.length_drop, List.length_append, List.length_replicate, List.length_map, List.length_cons, List.length_nil, Option.map] <;> omega) | with_reducible assumption | with_reducible rfl | decide); done)) | (refine And.intro ?_ ?_; focus ((repeat' (first | exact trivial | refine And.intro ?_ ?_)) <;> (first | omega | (simp only [hasTy, okP, lenD, D.ren, D.isCell, Option.getD, List.length_set, List.length_take, List.length_drop, List.length_append, List.length_replicate, List.length_map, List.length_cons, List.length_nil, Option.map] <;> omega) | with_reducible assumption | with_reducible rfl | decide); done)) | refine chkG (by kernel_rfl) ?_
      refine nextG (k + 1) [0, 1, 2, 3, 4] ?_ ?_ ?_
      · omega
      · omega
      · exact viewG rfl ⟨rfl, rfl, rfl, rfl, congrArg (fun x => some (D.i64 x)) (by omega), trivial⟩ ⟨⟨_, rfl, rfl, (ren_rows _ _).symm, id⟩, ⟨_, rfl, rfl, rfl, id⟩, ⟨_, rfl, rfl, rfl, id⟩, ⟨_, rfl, rfl, congrArg D.u8s hc.symm, id⟩, trivial⟩ rfl
  · have hk14 : k = 14 := by have := of_decide_eq_false h; omega
    subst hk14
    have hx := xorF_length (rdecI un ks b 14) (ks.getD 0 [])
    rw [hl] at hx
    have hF : rdecF un ks b = xorF (rdecI un ks b 14) (ks.getD 0 []) := rfl
    rw [hF]
    generalize rdecI un ks b 14 = z at hl hx ⊢
    repeat first | (rw [nthD_u8s (l := ks)]; rotate_left; omega) | (refine EffG.mk (And.intro ?_ ?_); focus ((repeat' (first | exact trivial | refine And.intro ?_ ?_)) <;> (first | omega | (simp only [hasTy, okP, lenD, D.ren, D.isCell, Option.getD, List.length_set, List.length_take, List.length_drop, List.length_append, List.length_replicate, List.length_map, List.length_cons, List.length_nil, Option.map] <;> omega) | with_reducible assumption | with_reducible rfl | decide); done)) | (refine And.intro ?_ ?_; focus ((repeat' (first | exact trivial | refine And.intro ?_ ?_)) <;> (first | omega | (simp only [hasTy, okP, lenD, D.ren, D.isCell, Option.getD, List.length_set, List.length_take, List.length_drop, List.length_append, List.length_replicate, List.length_map, List.length_cons, List.length_nil, Option.map] <;> omega) | with_reducible assumption | with_reducible rfl | decide); done)) | refine chkG (by kernel_rfl) ?_
    refine callG (with_ac z (ks.getD 0 []) hl (hr.get (by omega))) [] rfl rfl trivial rfl rfl ?_
    generalize xorF z (ks.getD 0 []) = x at hx ⊢
    repeat first | (refine EffG.mk (And.intro ?_ ?_); focus ((repeat' (first | exact trivial | refine And.intro ?_ ?_)) <;> (first | omega | (simp only [hasTy, okP, lenD, D.ren, D.isCell, Option.getD, List.length_set, List.length_take, List.length_drop, List.length_append, List.length_replicate, List.length_map, List.length_cons, List.length_nil, Option.map] <;> omega) | with_reducible assumption | with_reducible rfl | decide); done)) | (refine And.intro ?_ ?_; focus ((repeat' (first | exact trivial | refine And.intro ?_ ?_)) <;> (first | omega | (simp only [hasTy, okP, lenD, D.ren, D.isCell, Option.getD, List.length_set, List.length_take, List.length_drop, List.length_append, List.length_replicate, List.length_map, List.length_cons, List.length_nil, Option.map] <;> omega) | with_reducible assumption | with_reducible rfl | decide); done)) | refine chkG (by kernel_rfl) ?_
    refine retG [] rfl rfl trivial rfl
end Go.Proofs.YtljkjdhkofbgmaaDoor.Av
