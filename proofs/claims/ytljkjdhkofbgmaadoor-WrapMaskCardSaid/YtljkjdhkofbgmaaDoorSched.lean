import Derived.Test.YtljkjdhkofbgmaaDoorMixed
namespace Go.Proofs.YtljkjdhkofbgmaaDoor.Av
open Go
set_option linter.all false
set_option maxRecDepth 3000

abbrev t240 : Ty := .arr 240 .cell
abbrev t32 : Ty := .arr 32 .cell
abbrev t4 : Ty := .arr 4 .cell
abbrev t15 : Ty := .arr 15 (.arr 16 .cell)

def wordF (flat : List (BitVec 8)) (round : BitVec 8) (n : Nat) : List (BitVec 8) :=
  let w := (flat.drop (28 + 4 * n)).take 4
  if n % 8 = 0 then [sboxF (w.getD 1 0) ^^^ round, sboxF (w.getD 2 0), sboxF (w.getD 3 0), sboxF (w.getD 0 0)]
  else if n % 8 = 4 then [sboxF (w.getD 0 0), sboxF (w.getD 1 0), sboxF (w.getD 2 0), sboxF (w.getD 3 0)] else w
def putI (flat : List (BitVec 8)) (w : List (BitVec 8)) (n : Nat) : Nat → List (BitVec 8)
  | 0 => flat
  | k + 1 => (putI flat w n k).set (32 + 4 * n + k) ((putI flat w n k).getD (4 * n + k) 0 ^^^ w.getD k 0)
def schedI (key : List (BitVec 8)) : Nat → List (BitVec 8) × BitVec 8
  | 0 => (List.take 0 (List.replicate 240 0) ++ List.take 32 (List.drop 0 key) ++ List.drop (0 + 32) (List.replicate 240 0), 1)
  | n + 1 => (putI (schedI key n).1 (wordF (schedI key n).1 (schedI key n).2 n) n 4, if n % 8 = 0 then mulF (schedI key n).2 2 else (schedI key n).2)
theorem putI_length (f w : List (BitVec 8)) (n : Nat) : ∀ k, (putI f w n k).length = f.length
  | 0 => rfl
  | k + 1 => by rw [putI, List.length_set, putI_length f w n k]
theorem schedI_length (key : List (BitVec 8)) (hk : key.length = 32) : ∀ n, (schedI key n).1.length = 240
  | 0 => by simp only [schedI, List.length_append, List.length_take, List.length_drop, List.length_replicate, hk]; omega
  | n + 1 => by rw [schedI, putI_length, schedI_length key hk n]

theorem wordF_length (f : List (BitVec 8)) (r : BitVec 8) (n : Nat) (h : 32 + 4 * n ≤ f.length) : (wordF f r n).length = 4 := by
  unfold wordF
  simp only []
  split
  · rfl
  · split
    · rfl
    · rw [List.length_take, List.length_drop]; omega
def outK (flat : List (BitVec 8)) : Nat → List (List (BitVec 8))
  | 0 => List.replicate 15 (List.replicate 16 0)
  | j + 1 => (outK flat j).set j ((flat.drop (16 * j)).take 16)
theorem outK_length (flat : List (BitVec 8)) : ∀ j, (outK flat j).length = 15
  | 0 => rfl
  | j + 1 => by rw [outK, List.length_set, outK_length flat j]
theorem outK_lens (flat : List (BitVec 8)) (hf : flat.length = 240) : ∀ j, j ≤ 15 → ∀ k ∈ outK flat j, k.length = 16
  | 0, _, k, h => by
    rw [outK, List.mem_replicate] at h
    rw [h.2, List.length_replicate]
  | j + 1, hj, k, h => by
    rw [outK] at h
    rcases List.mem_or_eq_of_mem_set h with h | h
    · exact outK_lens flat hf j (by omega) k h
    · rw [h, List.length_take, List.length_drop]; omega
theorem keysTy {n : Nat} {ks : List (List (BitVec 8))} (h : ks.length = n) (h2 : ∀ k ∈ ks, k.length = 16) : hasTy (.arr n t16) (.node (ks.map .u8s)) := by
  refine ⟨by rw [List.length_map, h], AllD_mem.2 fun d hd => ?_⟩
  obtain ⟨k, hk, rfl⟩ := List.mem_map.1 hd
  exact h2 k hk
def schedF (key : List (BitVec 8)) : List (List (BitVec 8)) := outK (schedI key 52).1 15

theorem schedule_ac (key : List (BitVec 8)) (hk : key.length = 32) : AC Tryd.prog 38 [.u8s key] 0 [] ⟨.node ((schedF key).map .u8s), [], []⟩ := by
  refine ac_of tab mix Tryd.func38 rfl (by kernel_rfl) (by kernel_rfl) (by kernel_rfl) ⟨[14], []⟩ ?_
  repeat first | (refine EffG.mk (And.intro ?_ ?_); focus ((repeat' (first | exact trivial | refine And.intro ?_ ?_)) <;> (first | omega | (simp only [hasTy, okP, lenD, D.ren, D.isCell, Option.getD, List.length_set, List.length_take, List.length_drop, List.length_append, List.length_replicate, List.length_map, List.length_cons, List.length_nil, Option.map] <;> omega) | with_reducible assumption | with_reducible rfl | decide); done)) | (refine And.intro ?_ ?_; focus ((repeat' (first | exact trivial | refine And.intro ?_ ?_)) <;> (first | omega | (simp only [hasTy, okP, lenD, D.ren, D.isCell, Option.getD, List.length_set, List.length_take, List.length_drop, List.length_append, List.length_replicate, List.length_map, List.length_cons, List.length_nil, Option.map] <;> omega) | with_reducible assumption | with_reducible rfl | decide); done)) | refine chkG (by kernel_rfl) ?_ | refine Br.yes rfl ?_ | refine Br.no rfl ?_
  refine EffG.mk (And.intro ?_ ?_)
  · refine ⟨⟨by decide, ?_⟩, ?_, ?_⟩
    · show 0 + 32 ≤ key.length ∧ True
      exact ⟨by omega, trivial⟩
    · show 0 + 32 ≤ (List.replicate 240 0).length ∧ True
      exact ⟨by rw [List.length_replicate]; decide, trivial⟩
    · show (List.take 32 (List.drop 0 key)).length = 32
      rw [List.length_take, List.length_drop, hk]; rfl
  repeat first | (refine EffG.mk (And.intro ?_ ?_); focus ((repeat' (first | exact trivial | refine And.intro ?_ ?_)) <;> (first | omega | (simp only [hasTy, okP, lenD, D.ren, D.isCell, Option.getD, List.length_set, List.length_take, List.length_drop, List.length_append, List.length_replicate, List.length_map, List.length_cons, List.length_nil, Option.map] <;> omega) | with_reducible assumption | with_reducible rfl | decide); done)) | (refine And.intro ?_ ?_; focus ((repeat' (first | exact trivial | refine And.intro ?_ ?_)) <;> (first | omega | (simp only [hasTy, okP, lenD, D.ren, D.isCell, Option.getD, List.length_set, List.length_take, List.length_drop, List.length_append, List.length_replicate, List.length_map, List.length_cons, List.length_nil, Option.map] <;> omega) | with_reducible assumption | with_reducible rfl | decide); done)) | refine chkG (by kernel_rfl) ?_ | refine Br.yes rfl ?_ | refine Br.no rfl ?_
  refine loopG Nat (fun n => [(2, .ptr 1 []), (3, .ptr 2 []), (4, .u8 (schedI key n).2), (5, .i64 (32 + 4 * n : Nat))]) (fun n => [(1, some ⟨t15, .node (List.replicate 15 (.u8s (List.replicate 16 0))), true⟩), (2, some ⟨t240, .u8s (schedI key n).1, true⟩)]) 3
    (fun n => n ≤ 52) (fun n => 52 - n) 0 [0, 1, 2] (Nat.zero_le _) ?_ ?_
  · exact viewG rfl ⟨rfl, rfl, rfl, rfl, trivial⟩ ⟨⟨_, rfl, rfl, rfl, id⟩, ⟨_, rfl, rfl, rfl, id⟩, trivial⟩ rfl
  intro n hn
  have hl := schedI_length key hk n
  repeat first | (refine EffG.mk (And.intro ?_ ?_); focus ((repeat' (first | exact trivial | refine And.intro ?_ ?_)) <;> (first | omega | (simp only [hasTy, okP, lenD, D.ren, D.isCell, Option.getD, List.length_set, List.length_take, List.length_drop, List.length_append, List.length_replicate, List.length_map, List.length_cons, List.length_nil, Option.map] <;> omega) | with_reducible assumption | with_reducible rfl | decide); done)) | (refine And.intro ?_ ?_; focus ((repeat' (first | exact trivial | refine And.intro ?_ ?_)) <;> (first | omega | (simp only [hasTy, okP, lenD, D.ren, D.isCell, Option.getD, List.length_set, List.length_take, List.length_drop, List.length_append, List.length_replicate, List.length_map, List.length_cons, List.length_nil, Option.map] <;> omega) | with_reducible assumption | with_reducible rfl | decide); done)) | refine chkG (by kernel_rfl) ?_
  refine Br.split (fun h => ?_) (fun h => ?_)
  · have hn : n < 52 := by have := of_decide_eq_true h; omega
    repeat first | (refine EffG.mk (And.intro ?_ ?_); focus ((repeat' (first | exact trivial | refine And.intro ?_ ?_)) <;> (first | omega | (simp only [hasTy, okP, lenD, D.ren, D.isCell, Option.getD, List.length_set, List.length_take, List.length_drop, List.length_append, List.length_replicate, List.length_map, List.length_cons, List.length_nil, Option.map] <;> omega) | with_reducible assumption | with_reducible rfl | decide); done)) | (refine And.intro ?_ ?_; focus ((repeat' (first | exact trivial | refine And.intro ?_ ?_)) <;> (first | omega | (simp only [hasTy, okP, lenD, D.ren, D.isCell, Option.getD, List.length_set, List.length_take, List.length_drop, List.length_append, List.length_replicate, List.length_map, List.length_cons, List.length_nil, Option.map] <;> omega) | with_reducible assumption | with_reducible rfl | decide); done)) | refine chkG (by kernel_rfl) ?_
    refine joinG Unit (fun _ => [(2, .ptr 1 []), (3, .ptr 2 []), (4, .u8 (schedI key (n + 1)).2), (5, .i64 (32 + 4 * n : Nat)), (6, .ptr 3 [])])
      (fun _ => [(1, some ⟨t15, .node (List.replicate 15 (.u8s (List.replicate 16 0))), true⟩), (2, some ⟨t240, .u8s (schedI key n).1, true⟩), (3, some ⟨t4, .u8s (wordF (schedI key n).1 (schedI key n).2 n), true⟩)]) 4 (fun _ => True) ?_ ?_
    · repeat first | (refine EffG.mk (And.intro ?_ ?_); focus ((repeat' (first | exact trivial | refine And.intro ?_ ?_)) <;> (first | omega | (simp only [hasTy, okP, lenD, D.ren, D.isCell, Option.getD, List.length_set, List.length_take, List.length_drop, List.length_append, List.length_replicate, List.length_map, List.length_cons, List.length_nil, Option.map] <;> omega) | with_reducible assumption | with_reducible rfl | decide); done)) | (refine And.intro ?_ ?_; focus ((repeat' (first | exact trivial | refine And.intro ?_ ?_)) <;> (first | omega | (simp only [hasTy, okP, lenD, D.ren, D.isCell, Option.getD, List.length_set, List.length_take, List.length_drop, List.length_append, List.length_replicate, List.length_map, List.length_cons, List.length_nil, Option.map] <;> omega) | with_reducible assumption | with_reducible rfl | decide); done)) | refine chkG (by kernel_rfl) ?_
      have hd : ((((32 + 4 * n : Nat) : Int) - 4)).toNat = 28 + 4 * n := by omega
      refine Br.split (fun h0 => ?_) (fun h0 => ?_)
      · have h0 : n % 8 = 0 := by have := of_decide_eq_true h0; rw [Int.tmod_eq_emod_of_nonneg (by omega)] at this; omega
        repeat first | refine EffG.mk (And.intro (byte_ix _ boxL boxL_length) ?_) | refine callG box_ac [] rfl rfl trivial rfl rfl ?_ | (refine EffG.mk (And.intro ?_ ?_); focus ((repeat' (first | exact trivial | refine And.intro ?_ ?_)) <;> (first | omega | (simp only [hasTy, okP, lenD, D.ren, D.isCell, Option.getD, List.length_set, List.length_take, List.length_drop, List.length_append, List.length_replicate, List.length_map, List.length_cons, List.length_nil, Option.map] <;> omega) | with_reducible assumption | with_reducible rfl | decide); done)) | (refine And.intro ?_ ?_; focus ((repeat' (first | exact trivial | refine And.intro ?_ ?_)) <;> (first | omega | (simp only [hasTy, okP, lenD, D.ren, D.isCell, Option.getD, List.length_set, List.length_take, List.length_drop, List.length_append, List.length_replicate, List.length_map, List.length_cons, List.length_nil, Option.map] <;> omega) | with_reducible assumption | with_reducible rfl | decide); done)) | refine chkG (by kernel_rfl) ?_
        refine callG (mul_ac _ _) [] rfl rfl trivial rfl rfl ?_
        repeat first | (refine EffG.mk (And.intro ?_ ?_); focus ((repeat' (first | exact trivial | refine And.intro ?_ ?_)) <;> (first | omega | (simp only [hasTy, okP, lenD, D.ren, D.isCell, Option.getD, List.length_set, List.length_take, List.length_drop, List.length_append, List.length_replicate, List.length_map, List.length_cons, List.length_nil, Option.map] <;> omega) | with_reducible assumption | with_reducible rfl | decide); done)) | (refine And.intro ?_ ?_; focus ((repeat' (first | exact trivial | refine And.intro ?_ ?_)) <;> (first | omega | (simp only [hasTy, okP, lenD, D.ren, D.isCell, Option.getD, List.length_set, List.length_take, List.length_drop, List.length_append, List.length_replicate, List.length_map, List.length_cons, List.length_nil, Option.map] <;> omega) | with_reducible assumption | with_reducible rfl | decide); done)) | refine chkG (by kernel_rfl) ?_
        refine meetG () [0, 1, 2, 3] trivial (viewG rfl ⟨rfl, rfl, congrArg (fun x => some (D.u8 x)) (if_pos h0).symm, rfl, rfl, trivial⟩ ⟨⟨_, rfl, rfl, rfl, id⟩, ⟨_, rfl, rfl, rfl, id⟩, ⟨_, rfl, rfl, congrArg D.u8s ?_, id⟩, trivial⟩ rfl)
        rw [wordF, if_pos h0]
        simp only [Option.getD_some, hd]
        rfl
      · have h0 : ¬ n % 8 = 0 := by have := of_decide_eq_false h0; rw [Int.tmod_eq_emod_of_nonneg (by omega)] at this; omega
        repeat first | (refine EffG.mk (And.intro ?_ ?_); focus ((repeat' (first | exact trivial | refine And.intro ?_ ?_)) <;> (first | omega | (simp only [hasTy, okP, lenD, D.ren, D.isCell, Option.getD, List.length_set, List.length_take, List.length_drop, List.length_append, List.length_replicate, List.length_map, List.length_cons, List.length_nil, Option.map] <;> omega) | with_reducible assumption | with_reducible rfl | decide); done)) | (refine And.intro ?_ ?_; focus ((repeat' (first | exact trivial | refine And.intro ?_ ?_)) <;> (first | omega | (simp only [hasTy, okP, lenD, D.ren, D.isCell, Option.getD, List.length_set, List.length_take, List.length_drop, List.length_append, List.length_replicate, List.length_map, List.length_cons, List.length_nil, Option.map] <;> omega) | with_reducible assumption | with_reducible rfl | decide); done)) | refine chkG (by kernel_rfl) ?_
        refine Br.split (fun h4 => ?_) (fun h4 => ?_)
        · have h4 : n % 8 = 4 := by have := of_decide_eq_true h4; rw [Int.tmod_eq_emod_of_nonneg (by omega)] at this; omega
          repeat first | refine EffG.mk (And.intro (byte_ix _ boxL boxL_length) ?_) | refine callG box_ac [] rfl rfl trivial rfl rfl ?_ | (refine EffG.mk (And.intro ?_ ?_); focus ((repeat' (first | exact trivial | refine And.intro ?_ ?_)) <;> (first | omega | (simp only [hasTy, okP, lenD, D.ren, D.isCell, Option.getD, List.length_set, List.length_take, List.length_drop, List.length_append, List.length_replicate, List.length_map, List.length_cons, List.length_nil, Option.map] <;> omega) | with_reducible assumption | with_reducible rfl | decide); done)) | (refine And.intro ?_ ?_; focus ((repeat' (first | exact trivial | refine And.intro ?_ ?_)) <;> (first | omega | (simp only [hasTy, okP, lenD, D.ren, D.isCell, Option.getD, List.length_set, List.length_take, List.length_drop, List.length_append, List.length_replicate, List.length_map, List.length_cons, List.length_nil, Option.map] <;> omega) | with_reducible assumption | with_reducible rfl | decide); done)) | refine chkG (by kernel_rfl) ?_
          refine meetG () [0, 1, 2, 3] trivial (viewG rfl ⟨rfl, rfl, congrArg (fun x => some (D.u8 x)) (if_neg h0).symm, rfl, rfl, trivial⟩ ⟨⟨_, rfl, rfl, rfl, id⟩, ⟨_, rfl, rfl, rfl, id⟩, ⟨_, rfl, rfl, congrArg D.u8s ?_, id⟩, trivial⟩ rfl)
          rw [wordF, if_neg h0, if_pos h4]
          simp only [Option.getD_some, hd]
          rfl
        · have h4 : ¬ n % 8 = 4 := by have := of_decide_eq_false h4; rw [Int.tmod_eq_emod_of_nonneg (by omega)] at this; omega
          refine meetG () [0, 1, 2, 3] trivial (viewG rfl ⟨rfl, rfl, congrArg (fun x => some (D.u8 x)) (if_neg h0).symm, rfl, rfl, trivial⟩ ⟨⟨_, rfl, rfl, rfl, id⟩, ⟨_, rfl, rfl, rfl, id⟩, ⟨_, rfl, rfl, congrArg D.u8s ?_, id⟩, trivial⟩ rfl)
          rw [wordF, if_neg h0, if_neg h4]
          simp only [Option.getD_some, hd]
    · intro _ _
      have hw := wordF_length (schedI key n).1 (schedI key n).2 n (by rw [hl]; omega)
      repeat first | (refine EffG.mk (And.intro ?_ ?_); focus ((repeat' (first | exact trivial | refine And.intro ?_ ?_)) <;> (first | omega | (simp only [hasTy, okP, lenD, D.ren, D.isCell, Option.getD, List.length_set, List.length_take, List.length_drop, List.length_append, List.length_replicate, List.length_map, List.length_cons, List.length_nil, Option.map] <;> omega) | with_reducible assumption | with_reducible rfl | decide); done)) | (refine And.intro ?_ ?_; focus ((repeat' (first | exact trivial | refine And.intro ?_ ?_)) <;> (first | omega | (simp only [hasTy, okP, lenD, D.ren, D.isCell, Option.getD, List.length_set, List.length_take, List.length_drop, List.length_append, List.length_replicate, List.length_map, List.length_cons, List.length_nil, Option.map] <;> omega) | with_reducible assumption | with_reducible rfl | decide); done)) | refine chkG (by kernel_rfl) ?_
      refine loopG Nat (fun k => [(2, .ptr 1 []), (3, .ptr 2 []), (4, .u8 (schedI key (n + 1)).2), (5, .i64 (32 + 4 * n : Nat)), (68, .u8s (wordF (schedI key n).1 (schedI key n).2 n)), (69, .i64 k)])
        (fun k => [(1, some ⟨t15, .node (List.replicate 15 (.u8s (List.replicate 16 0))), true⟩), (2, some ⟨t240, .u8s (putI (schedI key n).1 (wordF (schedI key n).1 (schedI key n).2 n) n k), true⟩)]) 4 (fun k => k ≤ 4) (fun k => 4 - k) 0 [0, 1, 2] (Nat.zero_le _) ?_ ?_
      · exact viewG rfl ⟨rfl, rfl, rfl, rfl, rfl, rfl, trivial⟩ ⟨⟨_, rfl, rfl, rfl, id⟩, ⟨_, rfl, rfl, rfl, id⟩, trivial⟩ rfl
      intro k hk4
      have hp := putI_length (schedI key n).1 (wordF (schedI key n).1 (schedI key n).2 n) n k
      rw [hl] at hp
      repeat first | (refine EffG.mk (And.intro ?_ ?_); focus ((repeat' (first | exact trivial | refine And.intro ?_ ?_)) <;> (first | omega | (simp only [hasTy, okP, lenD, D.ren, D.isCell, Option.getD, List.length_set, List.length_take, List.length_drop, List.length_append, List.length_replicate, List.length_map, List.length_cons, List.length_nil, Option.map] <;> omega) | with_reducible assumption | with_reducible rfl | decide); done)) | (refine And.intro ?_ ?_; focus ((repeat' (first | exact trivial | refine And.intro ?_ ?_)) <;> (first | omega | (simp only [hasTy, okP, lenD, D.ren, D.isCell, Option.getD, List.length_set, List.length_take, List.length_drop, List.length_append, List.length_replicate, List.length_map, List.length_cons, List.length_nil, Option.map] <;> omega) | with_reducible assumption | with_reducible rfl | decide); done)) | refine chkG (by kernel_rfl) ?_
      refine Br.split (fun h => ?_) (fun h => ?_)
      · have hk4 : k < 4 := by have := of_decide_eq_true h; omega
        repeat first | (refine EffG.mk (And.intro ?_ ?_); focus ((repeat' (first | exact trivial | refine And.intro ?_ ?_)) <;> (first | omega | (simp only [hasTy, okP, lenD, D.ren, D.isCell, Option.getD, List.length_set, List.length_take, List.length_drop, List.length_append, List.length_replicate, List.length_map, List.length_cons, List.length_nil, Option.map] <;> omega) | with_reducible assumption | with_reducible rfl | decide); done)) | (refine And.intro ?_ ?_; focus ((repeat' (first | exact trivial | refine And.intro ?_ ?_)) <;> (first | omega | (simp only [hasTy, okP, lenD, D.ren, D.isCell, Option.getD, List.length_set, List.length_take, List.length_drop, List.length_append, List.length_replicate, List.length_map, List.length_cons, List.length_nil, Option.map] <;> omega) | with_reducible assumption | with_reducible rfl | decide); done)) | refine chkG (by kernel_rfl) ?_
        refine nextG (k + 1) [0, 1, 2] ?_ ?_ ?_
        · omega
        · omega
        · refine viewG rfl ⟨rfl, rfl, rfl, rfl, rfl, rfl, trivial⟩ ⟨⟨_, rfl, rfl, rfl, id⟩, ⟨_, rfl, rfl, congrArg D.u8s ?_, id⟩, trivial⟩ rfl
          have e1 : (((32 + 4 * n : Nat) : Int) + (k : Int)).toNat = 32 + 4 * n + k := by omega
          have e2 : (((32 + 4 * n : Nat) : Int) + (k : Int) - 32).toNat = 4 * n + k := by omega
          rw [putI, ← e1, ← e2]; rfl
      · have hk4 : k = 4 := by have := of_decide_eq_false h; omega
        repeat first | (refine EffG.mk (And.intro ?_ ?_); focus ((repeat' (first | exact trivial | refine And.intro ?_ ?_)) <;> (first | omega | (simp only [hasTy, okP, lenD, D.ren, D.isCell, Option.getD, List.length_set, List.length_take, List.length_drop, List.length_append, List.length_replicate, List.length_map, List.length_cons, List.length_nil, Option.map] <;> omega) | with_reducible assumption | with_reducible rfl | decide); done)) | (refine And.intro ?_ ?_; focus ((repeat' (first | exact trivial | refine And.intro ?_ ?_)) <;> (first | omega | (simp only [hasTy, okP, lenD, D.ren, D.isCell, Option.getD, List.length_set, List.length_take, List.length_drop, List.length_append, List.length_replicate, List.length_map, List.length_cons, List.length_nil, Option.map] <;> omega) | with_reducible assumption | with_reducible rfl | decide); done)) | refine chkG (by kernel_rfl) ?_
        refine nextG (n + 1) [0, 1, 2] ?_ ?_ ?_
        · omega
        · omega
        · refine viewG rfl ⟨rfl, rfl, rfl, congrArg (fun x => some (D.i64 x)) (by omega), trivial⟩ ⟨⟨_, rfl, rfl, rfl, id⟩, ⟨_, rfl, rfl, congrArg D.u8s ?_, id⟩, trivial⟩ rfl
          rw [hk4]; rfl
  · have hn : n = 52 := by have := of_decide_eq_false h; omega
    subst hn
    repeat first | (refine EffG.mk (And.intro ?_ ?_); focus ((repeat' (first | exact trivial | refine And.intro ?_ ?_)) <;> (first | omega | (simp only [hasTy, okP, lenD, D.ren, D.isCell, Option.getD, List.length_set, List.length_take, List.length_drop, List.length_append, List.length_replicate, List.length_map, List.length_cons, List.length_nil, Option.map] <;> omega) | with_reducible assumption | with_reducible rfl | decide); done)) | (refine And.intro ?_ ?_; focus ((repeat' (first | exact trivial | refine And.intro ?_ ?_)) <;> (first | omega | (simp only [hasTy, okP, lenD, D.ren, D.isCell, Option.getD, List.length_set, List.length_take, List.length_drop, List.length_append, List.length_replicate, List.length_map, List.length_cons, List.length_nil, Option.map] <;> omega) | with_reducible assumption | with_reducible rfl | decide); done)) | refine chkG (by kernel_rfl) ?_
    refine loopG Nat (fun j => [(2, .ptr 1 []), (3, .ptr 2 []), (9, .ptr 3 []), (86, .i64 j)])
      (fun j => [(1, some ⟨t15, .node (List.replicate 15 (.u8s (List.replicate 16 0))), true⟩), (2, some ⟨t240, .u8s (schedI key 52).1, true⟩), (3, some ⟨t15, .node ((outK (schedI key 52).1 j).map .u8s), true⟩)]) 4 (fun j => j ≤ 15) (fun j => 15 - j) 0 [0, 1, 2, 3] (Nat.zero_le _) ?_ ?_
    · exact viewG rfl ⟨rfl, rfl, rfl, rfl, trivial⟩ ⟨⟨_, rfl, rfl, rfl, id⟩, ⟨_, rfl, rfl, rfl, id⟩, ⟨_, rfl, rfl, rfl, id⟩, trivial⟩ rfl
    intro j hj
    have ho := outK_length (schedI key 52).1 j
    repeat first | (refine EffG.mk (And.intro ?_ ?_); focus ((repeat' (first | exact trivial | refine And.intro ?_ ?_)) <;> (first | omega | (simp only [hasTy, okP, lenD, D.ren, D.isCell, Option.getD, List.length_set, List.length_take, List.length_drop, List.length_append, List.length_replicate, List.length_map, List.length_cons, List.length_nil, Option.map] <;> omega) | with_reducible assumption | with_reducible rfl | decide); done)) | (refine And.intro ?_ ?_; focus ((repeat' (first | exact trivial | refine And.intro ?_ ?_)) <;> (first | omega | (simp only [hasTy, okP, lenD, D.ren, D.isCell, Option.getD, List.length_set, List.length_take, List.length_drop, List.length_append, List.length_replicate, List.length_map, List.length_cons, List.length_nil, Option.map] <;> omega) | with_reducible assumption | with_reducible rfl | decide); done)) | refine chkG (by kernel_rfl) ?_
    refine Br.split (fun h => ?_) (fun h => ?_)
    · have hj : j < 15 := by have := of_decide_eq_true h; omega
      repeat first | (refine EffG.mk (And.intro ?_ ?_); focus ((repeat' (first | exact trivial | refine And.intro ?_ ?_)) <;> (first | omega | (simp only [hasTy, okP, lenD, D.ren, D.isCell, Option.getD, List.length_set, List.length_take, List.length_drop, List.length_append, List.length_replicate, List.length_map, List.length_cons, List.length_nil, Option.map] <;> omega) | with_reducible assumption | with_reducible rfl | decide); done)) | (refine And.intro ?_ ?_; focus ((repeat' (first | exact trivial | refine And.intro ?_ ?_)) <;> (first | omega | (simp only [hasTy, okP, lenD, D.ren, D.isCell, Option.getD, List.length_set, List.length_take, List.length_drop, List.length_append, List.length_replicate, List.length_map, List.length_cons, List.length_nil, Option.map] <;> omega) | with_reducible assumption | with_reducible rfl | decide); done)) | refine chkG (by kernel_rfl) ?_
      refine nextG (j + 1) [0, 1, 2, 3] ?_ ?_ ?_
      · omega
      · omega
      · refine viewG rfl ⟨rfl, rfl, rfl, rfl, trivial⟩ ⟨⟨_, rfl, rfl, rfl, id⟩, ⟨_, rfl, rfl, rfl, id⟩, ⟨_, rfl, rfl, congrArg D.node ?_, id⟩, trivial⟩ rfl
        rw [rens_u8s, outK, List.map_set]
        have e1 : ((16 * (j : Int))).toNat = 16 * j := by omega
        simp only [Option.getD_some, e1, Int.toNat_natCast]
    · have hj : j = 15 := by have := of_decide_eq_false h; omega
      repeat first | (refine EffG.mk (And.intro ?_ ?_); focus ((repeat' (first | exact trivial | refine And.intro ?_ ?_)) <;> (first | omega | (simp only [hasTy, okP, lenD, D.ren, D.isCell, Option.getD, List.length_set, List.length_take, List.length_drop, List.length_append, List.length_replicate, List.length_map, List.length_cons, List.length_nil, Option.map] <;> omega) | with_reducible assumption | with_reducible rfl | decide); done)) | (refine And.intro ?_ ?_; focus ((repeat' (first | exact trivial | refine And.intro ?_ ?_)) <;> (first | omega | (simp only [hasTy, okP, lenD, D.ren, D.isCell, Option.getD, List.length_set, List.length_take, List.length_drop, List.length_append, List.length_replicate, List.length_map, List.length_cons, List.length_nil, Option.map] <;> omega) | with_reducible assumption | with_reducible rfl | decide); done)) | refine chkG (by kernel_rfl) ?_
      refine EffG.mk (And.intro ?_ ?_)
      · exact ⟨trivial, keysTy (outK_length _ _) (outK_lens _ hl j (by omega))⟩
      repeat first | (refine EffG.mk (And.intro ?_ ?_); focus ((repeat' (first | exact trivial | refine And.intro ?_ ?_)) <;> (first | omega | (simp only [hasTy, okP, lenD, D.ren, D.isCell, Option.getD, List.length_set, List.length_take, List.length_drop, List.length_append, List.length_replicate, List.length_map, List.length_cons, List.length_nil, Option.map] <;> omega) | with_reducible assumption | with_reducible rfl | decide); done)) | (refine And.intro ?_ ?_; focus ((repeat' (first | exact trivial | refine And.intro ?_ ?_)) <;> (first | omega | (simp only [hasTy, okP, lenD, D.ren, D.isCell, Option.getD, List.length_set, List.length_take, List.length_drop, List.length_append, List.length_replicate, List.length_map, List.length_cons, List.length_nil, Option.map] <;> omega) | with_reducible assumption | with_reducible rfl | decide); done)) | refine chkG (by kernel_rfl) ?_
      refine retG [] ?_ rfl trivial rfl
      refine congrArg D.node ?_
      rw [rens_u8s, hj]; rfl
end Go.Proofs.YtljkjdhkofbgmaaDoor.Av
