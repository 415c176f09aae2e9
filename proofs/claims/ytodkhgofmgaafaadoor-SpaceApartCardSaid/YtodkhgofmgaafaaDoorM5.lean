import Derived.Test.YtodkhgofmgaafaaDoorM4
namespace Go.Proofs.YtodkhgofmgaafaaDoor.Av
open Go
set_option linter.all false
set_option maxRecDepth 3000

abbrev t240 : Ty := .arr 240 .cell
abbrev t32 : Ty := .arr 32 .cell
abbrev t4 : Ty := .arr 4 .cell
abbrev t15 : Ty := .arr 15 (.arr 16 .cell)

def wordF (flat : List (BitVec 8)) (round : BitVec 8) (n : Nat) : List (BitVec 8) :=
  let w := (flat.drop (28 + 4 * n)).take 4
  if n % 8 = 0 then [sboxF (w.getD 1 0) ^^^ round, sboxF (w.getD 2 0), sboxF (w.getD 3 0), sboxF (w.getD 0 0)]
  else if n % 8 = 4 then [sboxF (w.getD 0 0), sboxF (w.getD 1 0), sboxF (w.getD 2 0), sboxF (w.getD 3 0)] else w
def putI (flat : List (BitVec 8)) (w : List (BitVec 8)) (n : Nat) : Nat → List (BitVec 8)
  | 0 => flat
  | k + 1 => (putI flat w n k).set (32 + 4 * n + k) ((putI flat w n k).getD (4 * n + k) 0 ^^^ w.getD k 0)
def schedI (key : List (BitVec 8)) : Nat → List (BitVec 8) × BitVec 8
  | 0 => (List.take 0 (List.replicate 240 0) ++ List.take 32 (List.drop 0 key) ++ List.drop (0 + 32) (List.replicate 240 0), 1)
  | n + 1 => (putI (schedI key n).1 (wordF (schedI key n).1 (schedI key n).2 n) n 4, if n % 8 = 0 then mulF (schedI key n).2 2 else (schedI key n).2)
theorem putI_length (f w : List (BitVec 8)) (n : Nat) : ∀ k, (putI f w n k).length = f.length
  | 0 => rfl
  | k + 1 => by rw [putI, List.length_set, putI_length f w n k]
theorem schedI_length (key : List (BitVec 8)) (hk : key.length = 32) : ∀ n, (schedI key n).1.length = 240
  | 0 => by simp only [schedI, List.length_append, List.length_take, List.length_drop, List.length_replicate, hk]; omega
  | n + 1 => by rw [schedI, putI_length, schedI_length key hk n]

theorem wordF_length (f : List (BitVec 8)) (r : BitVec 8) (n : Nat) (h : 32 + 4 * n ≤ f.length) : (wordF f r n).length = 4 := by
  unfold wordF
  simp only []
  split
  · rfl
  · split
    · rfl
    · rw [List.length_take, List.length_drop]; omega
def outK (flat : List (BitVec 8)) : Nat → List (List (BitVec 8))
  | 0 => List.replicate 15 (List.replicate 16 0)
  | j + 1 => (outK flat j).set j ((flat.drop (16 * j)).take 16)
theorem outK_length (flat : List (BitVec 8)) : ∀ j, (outK flat j).length = 15
  | 0 => rfl
  | j + 1 => by rw [outK, List.length_set, outK_length flat j]
theorem outK_lens (flat : List (BitVec 8)) (hf : flat.length = 240) : ∀ j, j ≤ 15 → ∀ k ∈ outK flat j, k.length = 16
  | 0, _, k, h => by
    rw [outK, List.mem_replicate] at h
    rw [h.2, List.length_replicate]
  | j + 1, hj, k, h => by
    rw [outK] at h
    rcases List.mem_or_eq_of_mem_set h with h | h
    · exact outK_lens flat hf j (by omega) k h
    · rw [h, List.length_take, List.length_drop]; omega
theorem keysTy {n : Nat} {ks : List (List (BitVec 8))} (h : ks.length = n) (h2 : ∀ k ∈ ks, k.length = 16) : hasTy (.arr n t16) (.node (ks.map .u8s)) := by
  refine ⟨by rw [List.length_map, h], AllD_mem.2 fun d hd => ?_⟩
  obtain ⟨k, hk, rfl⟩ := List.mem_map.1 hd
  exact h2 k hk
def schedF (key : List (BitVec 8)) : List (List (BitVec 8)) := outK (schedI key 52).1 15

theorem schedule_ac (key : List (BitVec 8)) (hk : key.length = 32) : AC Tryd.prog 137 [.u8s key] 0 [] ⟨.node ((schedF key).map .u8s), [], []⟩ := by
  refine ac_of tab mix Tryd.func137 rfl (by kernel_rfl) (by kernel_rfl) (by kernel_rfl) ⟨[14], []⟩ ?_
  repeat first | (refine EffG.mk (And.intro ?_ ?_); focus ((repeat' (first | exact trivial | refine And.intro ?_ ?_)) <;> (first | omega | (simp only [hasTy, okP, lenD, D.ren, D.isCell, Option.getD, List.length_set, List.length_take, List.length_drop, List.length_append, List.length_replicate, List.length_map, List.length_cons, List.length_nil, Option.map] <;> omega) | with_reducible assumption | with_reducible rfl | decide); done)) | (refine And.intro ?_ ?_; focus ((repeat' (first | exact trivial | refine And.intro ?_ ?_)) <;> (first | omega | (simp only [hasTy, okP, lenD, D.ren, D.isCell, Option.getD, List.length_set, List.length_take, List.length_drop, List.length_append, List.length_replicate, List.length_map, List.length_cons, List.length_nil, Option.map] <;> omega) | with_reducible assumption | with_reducible rfl | decide); done)) | refine chkG (by kernel_rfl) ?_ | refine Br.yes rfl ?_ | refine Br.no rfl ?_
  refine EffG.mk (And.intro ?_ ?_)
  · refine ⟨⟨by decide, ?_⟩, ?_, ?_⟩
    · show 0 + 32 ≤ key.length ∧ True
      exact ⟨by omega, trivial⟩
    · show 0 + 32 ≤ (List.replicate 240 0).length ∧ True
      exact ⟨by rw [List.length_replicate]; decide, trivial⟩
    · show (List.take 32 (List.drop 0 key)).length = 32
      rw [List.length_take, List.length_drop, hk]; rfl
  repeat first | (refine EffG.mk (And.intro ?_ ?_); focus ((repeat' (first | exact trivial | refine And.intro ?_ ?_)) <;> (first | omega | (simp only [hasTy, okP, lenD, D.ren, D.isCell, Option.getD, List.length_set, List.length_take, List.length_drop, List.length_append, List.length_replicate, List.length_map, List.length_cons, List.length_nil, Option.map] <;> omega) | with_reducible assumption | with_reducible rfl | decide); done)) | (refine And.intro ?_ ?_; focus ((repeat' (first | exact trivial | refine And.intro ?_ ?_)) <;> (first | omega | (simp only [hasTy, okP, lenD, D.ren, D.isCell, Option.getD, List.length_set, List.length_take, List.length_drop, List.length_append, List.length_replicate, List.length_map, List.length_cons, List.length_nil, Option.map] <;> omega) | with_reducible assumption | with_reducible rfl | decide); done)) | refine chkG (by kernel_rfl) ?_ | refine Br.yes rfl ?_ | refine Br.no rfl ?_
  refine loopG Nat (fun n => [(2, .ptr 1 []), (3, .ptr 2 []), (4, .u8 (schedI key n).2), (5, .i64 (32 + 4 * n : Nat))]) (fun n => [(1, some ⟨t15, .node (List.replicate 15 (.u8s (List.replicate 16 0))), true⟩), (2, some ⟨t240, .u8s (schedI key n).1, true⟩)]) 3
    (fun n => n ≤ 52) (fun n => 52 - n) 0 [0, 1, 2] (Nat.zero_le _) ?_ ?_
  · exact viewG rfl ⟨rfl, rfl, rfl, rfl, trivial⟩ ⟨⟨_, rfl, rfl, rfl, id⟩, ⟨_, rfl, rfl, rfl, id⟩, trivial⟩ rfl
  intro n hn
  have hl := schedI_length key hk n
  repeat first | (refine EffG.mk (And.intro ?_ ?_); focus ((repeat' (first | exact trivial | refine And.intro ?_ ?_)) <;> (first | omega | (simp only [hasTy, okP, lenD, D.ren, D.isCell, Option.getD, List.length_set, List.length_take, List.length_drop, List.length_append, List.length_replicate, List.length_map, List.length_cons, List.length_nil, Option.map] <;> omega) | with_reducible assumption | with_reducible rfl | decide); done)) | (refine And.intro ?_ ?_; focus ((repeat' (first | exact trivial | refine And.intro ?_ ?_)) <;> (first | omega | (simp only [hasTy, okP, lenD, D.ren, D.isCell, Option.getD, List.length_set, List.length_take, List.length_drop, List.length_append, List.length_replicate, List.length_map, List.length_cons, List.length_nil, Option.map] <;> omega) | with_reducible assumption | with_reducible rfl | decide); done)) | refine chkG (by kernel_rfl) ?_
  refine Br.split (fun h => ?_) (fun h => ?_)
  · have hn : n < 52 := by have := of_decide_eq_true h; omega
    repeat first | (refine EffG.mk (And.intro ?_ ?_); focus ((repeat' (first | exact trivial | refine And.intro ?_ ?_)) <;> (first | omega | (simp only [hasTy, okP, lenD, D.ren, D.isCell, Option.getD, List.length_set, List.length_take, List.length_drop, List.length_append, List.length_replicate, List.length_map, List.length_cons, List.length_nil, Option.map] <;> omega) | with_reducible assumption | with_reducible rfl | decide); done)) | (refine And.intro ?_ ?_; focus ((repeat' (first | exact trivial | refine And.intro ?_ ?_)) <;> (first | omega | (simp only [hasTy, okP, lenD, D.ren, D.isCell, Option.getD, List.length_set, List.length_take, List.length_drop, List.length_append, List.length_replicate, List.length_map, List.length_cons, List.length_nil, Option.map] <;> omega) | with_reducible assumption | with_reducible rfl | decide); done)) | refine chkG (by kernel_rfl) ?_
    refine joinG Unit (fun _ => [(2, .ptr 1 []), (3, .ptr 2 []), (4, .u8 (schedI key (n + 1)).2), (5, .i64 (32 + 4 * n : Nat)), (6, .ptr 3 [])])
      (fun _ => [(1, some ⟨t15, .node (List.replicate 15 (.u8s (List.replicate 16 0))), true⟩), (2, some ⟨t240, .u8s (schedI key n).1, true⟩), (3, some ⟨t4, .u8s (wordF (schedI key n).1 (schedI key n).2 n), true⟩)]) 4 (fun _ => True) ?_ ?_
    · repeat first | (refine EffG.mk (And.intro ?_ ?_); focus ((repeat' (first | exact trivial | refine And.intro ?_ ?_)) <;> (first | omega | (simp only [hasTy, okP, lenD, D.ren, D.isCell, Option.getD, List.length_set, List.length_take, List.length_drop, List.length_append, List.length_replicate, List.length_map, List.length_cons, List.length_nil, Option.map] <;> omega) | with_reducible assumption | with_reducible rfl | decide); done)) | (refine And.intro ?_ ?_; focus ((repeat' (first | exact trivial | refine And.intro ?_ ?_)) <;> (first | omega | (simp only [hasTy, okP, lenD, D.ren, D.isCell, Option.getD, List.length_set, List.length_take, List.length_drop, List.length_append, List.length_replicate, List.length_map, List.length_cons, List.length_nil, Option.map] <;> omega) | with_reducible assumption | with_reducible rfl | decide); done)) | refine chkG (by kernel_rfl) ?_
      have hd : ((((32 + 4 * n : Nat) : Int) - 4)).toNat = 28 + 4 * n := by omega
      refine Br.split (fun h0 => ?_) (fun h0 => ?_)
      · have h0 : n % 8 = 0 := by have := of_decide_eq_true h0; rw [Int.tmod_eq_emod_of_nonneg (by omega)] at this; omega
        repeat first | refine EffG.mk (And.intro (byte_ix _ boxL boxL_length) ?_) | refine callG box_ac [] rfl rfl trivial rfl rfl ?_ | (refine EffG.mk (And.intro ?_ ?_); focus ((repeat' (first | exact trivial | refine And.intro ?_ ?_)) <;> (first | omega | (simp only [hasTy, okP, lenD, D.ren, D.isCell, Option.getD, List.length_set, List.length_take, List.length_drop, List.length_append, List.length_replicate, List.length_map, List.length_cons, List.length_nil, Option.map] <;> omega) | with_reducible assumption | with_reducible rfl | decide); done)) | (refine And.intro ?_ ?_; focus ((repeat' (first | exact trivial | refine And.intro ?_ ?_)) <;> (first | omega | (simp only [hasTy, okP, lenD, D.ren, D.isCell, Option.getD, List.length_set, List.length_take, List.length_drop, List.length_append, List.length_replicate, List.length_map, List.length_cons, List.length_nil, Option.map] <;> omega) | with_reducible assumption | with_reducible rfl | decide); done)) | refine chkG (by kernel_rfl) ?_
        refine callG (mul_ac _ _) [] rfl rfl trivial rfl rfl ?_
        repeat first | (refine EffG.mk (And.intro ?_ ?_); focus ((repeat' (first | exact trivial | refine And.intro ?_ ?_)) <;> (first | omega | (simp only [hasTy, okP, lenD, D.ren, D.isCell, Option.getD, List.length_set, List.length_take, List.length_drop, List.length_append, List.length_replicate, List.length_map, List.length_cons, List.length_nil, Option.map] <;> omega) | with_reducible assumption | with_reducible rfl | decide); done)) | (refine And.intro ?_ ?_; focus ((repeat' (first | exact trivial | refine And.intro ?_ ?_)) <;> (first | omega | (simp only [hasTy, okP, lenD, D.ren, D.isCell, Option.getD, List.length_set, List.length_take, List.length_drop, List.length_append, List.length_replicate, List.length_map, List.length_cons, List.length_nil, Option.map] <;> omega) | with_reducible assumption | with_reducible rfl | decide); done)) | refine chkG (by kernel_rfl) ?_
        refine meetG () [0, 1, 2, 3] trivial (viewG rfl ⟨rfl, rfl, congrArg (fun x => some (D.u8 x)) (if_pos h0).symm, rfl, rfl, trivial⟩ ⟨⟨_, rfl, rfl, rfl, id⟩, ⟨_, rfl, rfl, rfl, id⟩, ⟨_, rfl, rfl, congrArg D.u8s ?_, id⟩, trivial⟩ rfl)
        rw [wordF, if_pos h0]
        simp only [Option.getD_some, hd]
        rfl
      · have h0 : ¬ n % 8 = 0 := by have := of_decide_eq_false h0; rw [Int.tmod_eq_emod_of_nonneg (by omega)] at this; omega
        repeat first | (refine EffG.mk (And.intro ?_ ?_); focus ((repeat' (first | exact trivial | refine And.intro ?_ ?_)) <;> (first | omega | (simp only [hasTy, okP, lenD, D.ren, D.isCell, Option.getD, List.length_set, List.length_take, List.length_drop, List.length_append, List.length_replicate, List.length_map, List.length_cons, List.length_nil, Option.map] <;> omega) | with_reducible assumption | with_reducible rfl | decide); done)) | (refine And.intro ?_ ?_; focus ((repeat' (first | exact trivial | refine And.intro ?_ ?_)) <;> (first | omega | (simp only [hasTy, okP, lenD, D.ren, D.isCell, Option.getD, List.length_set, List.length_take, List.length_drop, List.length_append, List.length_replicate, List.length_map, List.length_cons, List.length_nil, Option.map] <;> omega) | with_reducible assumption | with_reducible rfl | decide); done)) | refine chkG (by kernel_rfl) ?_
        refine Br.split (fun h4 => ?_) (fun h4 => ?_)
        · have h4 : n % 8 = 4 := by have := of_decide_eq_true h4; rw [Int.tmod_eq_emod_of_nonneg (by omega)] at this; omega
          repeat first | refine EffG.mk (And.intro (byte_ix _ boxL boxL_length) ?_) | refine callG box_ac [] rfl rfl trivial rfl rfl ?_ | (refine EffG.mk (And.intro ?_ ?_); focus ((repeat' (first | exact trivial | refine And.intro ?_ ?_)) <;> (first | omega | (simp only [hasTy, okP, lenD, D.ren, D.isCell, Option.getD, List.length_set, List.length_take, List.length_drop, List.length_append, List.length_replicate, List.length_map, List.length_cons, List.length_nil, Option.map] <;> omega) | with_reducible assumption | with_reducible rfl | decide); done)) | (refine And.intro ?_ ?_; focus ((repeat' (first | exact trivial | refine And.intro ?_ ?_)) <;> (first | omega | (simp only [hasTy, okP, lenD, D.ren, D.isCell, Option.getD, List.length_set, List.length_take, List.length_drop, List.length_append, List.length_replicate, List.length_map, List.length_cons, List.length_nil, Option.map] <;> omega) | with_reducible assumption | with_reducible rfl | decide); done)) | refine chkG (by kernel_rfl) ?_
          refine meetG () [0, 1, 2, 3] trivial (viewG rfl ⟨rfl, rfl, congrArg (fun x => some (D.u8 x)) (if_neg h0).symm, rfl, rfl, trivial⟩ ⟨⟨_, rfl, rfl, rfl, id⟩, ⟨_, rfl, rfl, rfl, id⟩, ⟨_, rfl, rfl, congrArg D.u8s ?_, id⟩, trivial⟩ rfl)
          rw [wordF, if_neg h0, if_pos h4]
          simp only [Option.getD_some, hd]
          rfl
        · have h4 : ¬ n % 8 = 4 := by have := of_decide_eq_false h4; rw [Int.tmod_eq_emod_of_nonneg (by omega)] at this; omega
          refine meetG () [0, 1, 2, 3] trivial (viewG rfl ⟨rfl, rfl, congrArg (fun x => some (D.u8 x)) (if_neg h0).symm, rfl, rfl, trivial⟩ ⟨⟨_, rfl, rfl, rfl, id⟩, ⟨_, rfl, rfl, rfl, id⟩, ⟨_, rfl, rfl, congrArg D.u8s ?_, id⟩, trivial⟩ rfl)
          rw [wordF, if_neg h0, if_neg h4]
          simp only [Option.getD_some, hd]
    · intro _ _
      have hw := wordF_length (schedI key n).1 (schedI key n).2 n (by rw [hl]; omega)
      repeat first | (refine EffG.mk (And.intro ?_ ?_); focus ((repeat' (first | exact trivial | refine And.intro ?_ ?_)) <;> (first | omega | (simp only [hasTy, okP, lenD, D.ren, D.isCell, Option.getD, List.length_set, List.length_take, List.length_drop, List.length_append, List.length_replicate, List.length_map, List.length_cons, List.length_nil, Option.map] <;> omega) | with_reducible assumption | with_reducible rfl | decide); done)) | (refine And.intro ?_ ?_; focus ((repeat' (first | exact trivial | refine And.intro ?_ ?_)) <;> (first | omega | (simp only [hasTy, okP, lenD, D.ren, D.isCell, Option.getD, List.length_set, List.length_take, List.length_drop, List.length_append, List.length_replicate, List.length_map, List.length_cons, List.length_nil, Option.map] <;> omega) | with_reducible assumption | with_reducible rfl | decide); done)) | refine chkG (by kernel_rfl) ?_
      refine loopG Nat (fun k => [(2, .ptr 1 []), (3, .ptr 2 []), (4, .u8 (schedI key (n + 1)).2), (5, .i64 (32 + 4 * n : Nat)), (68, .u8s (wordF (schedI key n).1 (schedI key n).2 n)), (69, .i64 k)])
        (fun k => [(1, some ⟨t15, .node (List.replicate 15 (.u8s (List.replicate 16 0))), true⟩), (2, some ⟨t240, .u8s (putI (schedI key n).1 (wordF (schedI key n).1 (schedI key n).2 n) n k), true⟩)]) 4 (fun k => k ≤ 4) (fun k => 4 - k) 0 [0, 1, 2] (Nat.zero_le _) ?_ ?_
      · exact viewG rfl ⟨rfl, rfl, rfl, rfl, rfl, rfl, trivial⟩ ⟨⟨_, rfl, rfl, rfl, id⟩, ⟨_, rfl, rfl, rfl, id⟩, trivial⟩ rfl
      intro k hk4
      have hp := putI_length (schedI key n).1 (wordF (schedI key n).1 (schedI key n).2 n) n k
      rw [hl] at hp
      repeat first | (refine EffG.mk (And.intro ?_ ?_); focus ((repeat' (first | exact trivial | refine And.intro ?_ ?_)) <;> (first | omega | (simp only [hasTy, okP, lenD, D.ren, D.isCell, Option.getD, List.length_set, List.length_take, List.length_drop, List.length_append, List.length_replicate, List.length_map, List.length_cons, List.length_nil, Option.map] <;> omega) | with_reducible assumption | with_reducible rfl | decide); done)) | (refine And.intro ?_ ?_; focus ((repeat' (first | exact trivial | refine And.intro ?_ ?_)) <;> (first | omega | (simp only [hasTy, okP, lenD, D.ren, D.isCell, Option.getD, List.length_set, List.length_take, List.length_drop, List.length_append, List.length_replicate, List.length_map, List.length_cons, List.length_nil, Option.map] <;> omega) | with_reducible assumption | with_reducible rfl | decide); done)) | refine chkG (by kernel_rfl) ?_
      refine Br.split (fun h => ?_) (fun h => ?_)
      · have hk4 : k < 4 := by have := of_decide_eq_true h; omega
        repeat first | (refine EffG.mk (And.intro ?_ ?_); focus ((repeat' (first | exact trivial | refine And.intro ?_ ?_)) <;> (first | omega | (simp only [hasTy, okP, lenD, D.ren, D.isCell, Option.getD, List.length_set, List.length_take, List.length_drop, List.length_append, List.length_replicate, List.length_map, List.length_cons, List.length_nil, Option.map] <;> omega) | with_reducible assumption | with_reducible rfl | decide); done)) | (refine And.intro ?_ ?_; focus ((repeat' (first | exact trivial | refine And.intro ?_ ?_)) <;> (first | omega | (simp only [hasTy, okP, lenD, D.ren, D.isCell, Option.getD, List.length_set, List.length_take, List.length_drop, List.length_append, List.length_replicate, List.length_map, List.length_cons, List.length_nil, Option.map] <;> omega) | with_reducible assumption | with_reducible rfl | decide); done)) | refine chkG (by kernel_rfl) ?_
        refine nextG (k + 1) [0, 1, 2] ?_ ?_ ?_
        · omega
        · omega
        · refine viewG rfl ⟨rfl, rfl, rfl, rfl, rfl, rfl, trivial⟩ ⟨⟨_, rfl, rfl, rfl, id⟩, ⟨_, rfl, rfl, congrArg D.u8s ?_, id⟩, trivial⟩ rfl
          have e1 : (((32 + 4 * n : Nat) : Int) + (k : Int)).toNat = 32 + 4 * n + k := by omega
          have e2 : (((32 + 4 * n : Nat) : Int) + (k : Int) - 32).toNat = 4 * n + k := by omega
          rw [putI, ← e1, ← e2]; rfl
      · have hk4 : k = 4 := by have := of_decide_eq_false h; omega
        repeat first | (refine EffG.mk (And.intro ?_ ?_); focus ((repeat' (first | exact trivial | refine And.intro ?_ ?_)) <;> (first | omega | (simp only [hasTy, okP, lenD, D.ren, D.isCell, Option.getD, List.length_set, List.length_take, List.length_drop, List.length_append, List.length_replicate, List.length_map, List.length_cons, List.length_nil, Option.map] <;> omega) | with_reducible assumption | with_reducible rfl | decide); done)) | (refine And.intro ?_ ?_; focus ((repeat' (first | exact trivial | refine And.intro ?_ ?_)) <;> (first | omega | (simp only [hasTy, okP, lenD, D.ren, D.isCell, Option.getD, List.length_set, List.length_take, List.length_drop, List.length_append, List.length_replicate, List.length_map, List.length_cons, List.length_nil, Option.map] <;> omega) | with_reducible assumption | with_reducible rfl | decide); done)) | refine chkG (by kernel_rfl) ?_
        refine nextG (n + 1) [0, 1, 2] ?_ ?_ ?_
        · omega
        · omega
        · refine viewG rfl ⟨rfl, rfl, rfl, congrArg (fun x => some (D.i64 x)) (by omega), trivial⟩ ⟨⟨_, rfl, rfl, rfl, id⟩, ⟨_, rfl, rfl, congrArg D.u8s ?_, id⟩, trivial⟩ rfl
          rw [hk4]; rfl
  · have hn : n = 52 := by have := of_decide_eq_false h; omega
    subst hn
    repeat first | (refine EffG.mk (And.intro ?_ ?_); focus ((repeat' (first | exact trivial | refine And.intro ?_ ?_)) <;> (first | omega | (simp only [hasTy, okP, lenD, D.ren, D.isCell, Option.getD, List.length_set, List.length_take, List.length_drop, List.length_append, List.length_replicate, List.length_map, List.length_cons, List.length_nil, Option.map] <;> omega) | with_reducible assumption | with_reducible rfl | decide); done)) | (refine And.intro ?_ ?_; focus ((repeat' (first | exact trivial | refine And.intro ?_ ?_)) <;> (first | omega | (simp only [hasTy, okP, lenD, D.ren, D.isCell, Option.getD, List.length_set, List.length_take, List.length_drop, List.length_append, List.length_replicate, List.length_map, List.length_cons, List.length_nil, Option.map] <;> omega) | with_reducible assumption | with_reducible rfl | decide); done)) | refine chkG (by kernel_rfl) ?_
    refine loopG Nat (fun j => [(2, .ptr 1 []), (3, .ptr 2 []), (9, .ptr 3 []), (86, .i64 j)])
      (fun j => [(1, some ⟨t15, .node (List.replicate 15 (.u8s (List.replicate 16 0))), true⟩), (2, some ⟨t240, .u8s (schedI key 52).1, true⟩), (3, some ⟨t15, .node ((outK (schedI key 52).1 j).map .u8s), true⟩)]) 4 (fun j => j ≤ 15) (fun j => 15 - j) 0 [0, 1, 2, 3] (Nat.zero_le _) ?_ ?_
    · exact viewG rfl ⟨rfl, rfl, rfl, rfl, trivial⟩ ⟨⟨_, rfl, rfl, rfl, id⟩, ⟨_, rfl, rfl, rfl, id⟩, ⟨_, rfl, rfl, rfl, id⟩, trivial⟩ rfl
    intro j hj
    have ho := outK_length (schedI key 52).1 j
    repeat first | (refine EffG.mk (And.intro ?_ ?_); focus ((repeat' (first | exact trivial | refine And.intro ?_ ?_)) <;> (first | omega | (simp only [hasTy, okP, lenD, D.ren, D.isCell, Option.getD, List.length_set, List.length_take, List.length_drop, List.length_append, List.length_replicate, List.length_map, List.length_cons, List.length_nil, Option.map] <;> omega) | with_reducible assumption | with_reducible rfl | decide); done)) | (refine And.intro ?_ ?_; focus ((repeat' (first | exact trivial | refine And.intro ?_ ?_)) <;> (first | omega | (simp only [hasTy, okP, lenD, D.ren, D.isCell, Option.getD, List.length_set, List.length_take, List.length_drop, List.length_append, List.length_replicate, List.length_map, List.length_cons, List.length_nil, Option.map] <;> omega) | with_reducible assumption | with_reducible rfl | decide); done)) | refine chkG (by kernel_rfl) ?_
    refine Br.split (fun h => ?_) (fun h => ?_)
    · have hj : j < 15 := by have := of_decide_eq_true h; omega
      repeat first | (refine EffG.mk (And.intro ?_ ?_); focus ((repeat' (first | exact trivial | refine And.intro ?_ ?_)) <;> (first | omega | (simp only [hasTy, okP, lenD, D.ren, D.isCell, Option.getD, List.length_set, List.length_take, List.length_drop, List.length_append, List.length_replicate, List.length_map, List.length_cons, List.length_nil, Option.map] <;> omega) | with_reducible assumption | with_reducible rfl | decide); done)) | (refine And.intro ?_ ?_; focus ((repeat' (first | exact trivial | refine And.intro ?_ ?_)) <;> (first | omega | (simp only [hasTy, okP, lenD, D.ren, D.isCell, Option.getD, List.length_set, List.length_take, List.length_drop, List.length_append, List.length_replicate, List.length_map, List.length_cons, List.length_nil, Option.map] <;> omega) | with_reducible assumption | with_reducible rfl | decide); done)) | refine chkG (by kernel_rfl) ?_
      refine nextG (j + 1) [0, 1, 2, 3] ?_ ?_ ?_
      · omega
      · omega
      · refine viewG rfl ⟨rfl, rfl, rfl, rfl, trivial⟩ ⟨⟨_, rfl, rfl, rfl, id⟩, ⟨_, rfl, rfl, rfl, id⟩, ⟨_, rfl, rfl, congrArg D.node ?_, id⟩, trivial⟩ rfl
        rw [rens_u8s, outK, List.map_set]
        have e1 : ((16 * (j : Int))).toNat = 16 * j := by omega
        simp only [Option.getD_some, e1, Int.toNat_natCast]
    · have hj : j = 15 := by have := of_decide_eq_false h; omega
      repeat first | (refine EffG.mk (And.intro ?_ ?_); focus ((repeat' (first | exact trivial | refine And.intro ?_ ?_)) <;> (first | omega | (simp only [hasTy, okP, lenD, D.ren, D.isCell, Option.getD, List.length_set, List.length_take, List.length_drop, List.length_append, List.length_replicate, List.length_map, List.length_cons, List.length_nil, Option.map] <;> omega) | with_reducible assumption | with_reducible rfl | decide); done)) | (refine And.intro ?_ ?_; focus ((repeat' (first | exact trivial | refine And.intro ?_ ?_)) <;> (first | omega | (simp only [hasTy, okP, lenD, D.ren, D.isCell, Option.getD, List.length_set, List.length_take, List.length_drop, List.length_append, List.length_replicate, List.length_map, List.length_cons, List.length_nil, Option.map] <;> omega) | with_reducible assumption | with_reducible rfl | decide); done)) | refine chkG (by kernel_rfl) ?_
      refine EffG.mk (And.intro ?_ ?_)
      · exact ⟨trivial, keysTy (outK_length _ _) (outK_lens _ hl j (by omega))⟩
      repeat first | (refine EffG.mk (And.intro ?_ ?_); focus ((repeat' (first | exact trivial | refine And.intro ?_ ?_)) <;> (first | omega | (simp only [hasTy, okP, lenD, D.ren, D.isCell, Option.getD, List.length_set, List.length_take, List.length_drop, List.length_append, List.length_replicate, List.length_map, List.length_cons, List.length_nil, Option.map] <;> omega) | with_reducible assumption | with_reducible rfl | decide); done)) | (refine And.intro ?_ ?_; focus ((repeat' (first | exact trivial | refine And.intro ?_ ?_)) <;> (first | omega | (simp only [hasTy, okP, lenD, D.ren, D.isCell, Option.getD, List.length_set, List.length_take, List.length_drop, List.length_append, List.length_replicate, List.length_map, List.length_cons, List.length_nil, Option.map] <;> omega) | with_reducible assumption | with_reducible rfl | decide); done)) | refine chkG (by kernel_rfl) ?_
      refine retG [] ?_ rfl trivial rfl
      refine congrArg D.node ?_
      rw [rens_u8s, hj]; rfl
end Go.Proofs.YtodkhgofmgaafaaDoor.Av

namespace Go.Proofs.YtodkhgofmgaafaaDoor.Av
open Go
set_option linter.all false
set_option maxRecDepth 3000

abbrev keysD (ks : List (List (BitVec 8))) : D := .node [.node (ks.map .u8s)]
abbrev tC : Ty := .st [t15]

theorem ren_keysD (s : Nat → Nat) (ks : List (List (BitVec 8))) : (keysD ks).ren s = keysD ks := congrArg (fun l => D.node [D.node l]) (rens_u8s s ks)
theorem ren_keysR (s : Nat → Nat) (ks : List (List (BitVec 8))) : (D.node (ks.map .u8s)).ren s = .node (ks.map .u8s) := congrArg D.node (rens_u8s s ks)
theorem schedF_length (key : List (BitVec 8)) : (schedF key).length = 15 := outK_length _ _
theorem schedF_lens (key : List (BitVec 8)) (hk : key.length = 32) : ∀ k ∈ schedF key, k.length = 16 := outK_lens _ (schedI_length key hk 52) 15 (Nat.le_refl _)

theorem new_ac (key : List (BitVec 8)) (hk : key.length = 32) : AC Tryd.prog 110 [.u8s key] 0 [] ⟨.ptr 0 [], [], [(tC, keysD (schedF key))]⟩ := by
  have hs := schedule_ac key hk
  have h1 := schedF_length key
  have h2 := schedF_lens key hk
  generalize schedF key = ks at hs h1 h2 ⊢
  refine ac_of tab mix Tryd.func110 rfl (by kernel_rfl) (by kernel_rfl) (by kernel_rfl) {} ?_
  repeat first | (refine EffG.mk (And.intro ?_ ?_); focus ((repeat' (first | exact trivial | refine And.intro ?_ ?_)) <;> (first | omega | (simp only [hasTy, okP, lenD, D.ren, D.isCell, Option.getD, List.length_set, List.length_take, List.length_drop, List.length_append, List.length_replicate, List.length_map, List.length_cons, List.length_nil, Option.map] <;> omega) | with_reducible assumption | with_reducible rfl | decide); done)) | (refine And.intro ?_ ?_; focus ((repeat' (first | exact trivial | refine And.intro ?_ ?_)) <;> (first | omega | (simp only [hasTy, okP, lenD, D.ren, D.isCell, Option.getD, List.length_set, List.length_take, List.length_drop, List.length_append, List.length_replicate, List.length_map, List.length_cons, List.length_nil, Option.map] <;> omega) | with_reducible assumption | with_reducible rfl | decide); done)) | refine chkG (by kernel_rfl) ?_
  refine callR hs [] (.node (ks.map .u8s)) [] rfl rfl trivial rfl rfl (ren_keysR _ ks) rfl ?_
  repeat first | (refine EffG.mk (And.intro ?_ ?_); focus ((repeat' (first | exact trivial | refine And.intro ?_ ?_)) <;> (first | omega | (simp only [hasTy, okP, lenD, D.ren, D.isCell, Option.getD, List.length_set, List.length_take, List.length_drop, List.length_append, List.length_replicate, List.length_map, List.length_cons, List.length_nil, Option.map] <;> omega) | with_reducible assumption | with_reducible rfl | decide); done)) | (refine And.intro ?_ ?_; focus ((repeat' (first | exact trivial | refine And.intro ?_ ?_)) <;> (first | omega | (simp only [hasTy, okP, lenD, D.ren, D.isCell, Option.getD, List.length_set, List.length_take, List.length_drop, List.length_append, List.length_replicate, List.length_map, List.length_cons, List.length_nil, Option.map] <;> omega) | with_reducible assumption | with_reducible rfl | decide); done)) | refine chkG (by kernel_rfl) ?_
  refine EffG.mk (And.intro ⟨⟨?_, keysTy h1 h2⟩, trivial⟩ ?_)
  · exact trivial
  repeat first | (refine EffG.mk (And.intro ?_ ?_); focus ((repeat' (first | exact trivial | refine And.intro ?_ ?_)) <;> (first | omega | (simp only [hasTy, okP, lenD, D.ren, D.isCell, Option.getD, List.length_set, List.length_take, List.length_drop, List.length_append, List.length_replicate, List.length_map, List.length_cons, List.length_nil, Option.map] <;> omega) | with_reducible assumption | with_reducible rfl | decide); done)) | (refine And.intro ?_ ?_; focus ((repeat' (first | exact trivial | refine And.intro ?_ ?_)) <;> (first | omega | (simp only [hasTy, okP, lenD, D.ren, D.isCell, Option.getD, List.length_set, List.length_take, List.length_drop, List.length_append, List.length_replicate, List.length_map, List.length_cons, List.length_nil, Option.map] <;> omega) | with_reducible assumption | with_reducible rfl | decide); done)) | refine chkG (by kernel_rfl) ?_
  refine EffG.mk (And.intro ⟨keysTy h1 h2, trivial⟩ ?_)
  repeat first | (refine EffG.mk (And.intro ?_ ?_); focus ((repeat' (first | exact trivial | refine And.intro ?_ ?_)) <;> (first | omega | (simp only [hasTy, okP, lenD, D.ren, D.isCell, Option.getD, List.length_set, List.length_take, List.length_drop, List.length_append, List.length_replicate, List.length_map, List.length_cons, List.length_nil, Option.map] <;> omega) | with_reducible assumption | with_reducible rfl | decide); done)) | (refine And.intro ?_ ?_; focus ((repeat' (first | exact trivial | refine And.intro ?_ ?_)) <;> (first | omega | (simp only [hasTy, okP, lenD, D.ren, D.isCell, Option.getD, List.length_set, List.length_take, List.length_drop, List.length_append, List.length_replicate, List.length_map, List.length_cons, List.length_nil, Option.map] <;> omega) | with_reducible assumption | with_reducible rfl | decide); done)) | refine chkG (by kernel_rfl) ?_
  refine retG [1] rfl rfl ⟨⟨_, rfl, rfl, (ren_keysD _ ks).symm, id⟩, trivial⟩ rfl

def subI (s : List (BitVec 8)) : Nat → List (BitVec 8)
  | 0 => List.replicate 16 0
  | i + 1 => (subI s i).set i (sboxF (s.getD ((i + 4 * (i % 4)) % 16) 0))
theorem subI_length (s : List (BitVec 8)) : ∀ i, (subI s i).length = 16
  | 0 => rfl
  | i + 1 => by rw [subI, List.length_set, subI_length s i]
def encI (ks : List (List (BitVec 8))) (b : List (BitVec 8)) : Nat → List (BitVec 8)
  | 0 => xorF b (ks.getD 0 [])
  | n + 1 => xorF (if n + 1 < 14 then mixF (subI (encI ks b n) 16) else subI (encI ks b n) 16) (ks.getD (n + 1) [])
theorem xorF_length (s k : List (BitVec 8)) : (xorF s k).length = s.length := xorI_length s k 16
theorem mixF_length (s : List (BitVec 8)) : (mixF s).length = s.length := mixI_length s 4
theorem encI_length (ks : List (List (BitVec 8))) (b : List (BitVec 8)) (hb : b.length = 16) : ∀ n, (encI ks b n).length = 16
  | 0 => by rw [encI, xorF_length, hb]
  | n + 1 => by
    rw [encI, xorF_length]
    split
    · rw [mixF_length, subI_length]
    · rw [subI_length]

theorem encrypt_ac (ks : List (List (BitVec 8))) (b : List (BitVec 8)) (hb : b.length = 16) (h1 : ks.length = 15) (h2 : ∀ k ∈ ks, k.length = 16) :
    AC Tryd.prog 115 [.ptr 0 [], .u8s b] 1 [(0, some ⟨tC, keysD ks, true⟩)] ⟨.u8s (encI ks b 14), [], []⟩ := by
  have hm : (ks.map D.u8s).length = 15 := by rw [List.length_map, h1]
  have hk : ∀ i, i < 15 → (ks.getD i []).length = 16 := fun i hi => h2 _ (getD_mem (by omega))
  refine ac_of tab mix Tryd.func115 rfl (by kernel_rfl) (by kernel_rfl) (by kernel_rfl) ⟨[15], []⟩ ?_
  have hx := xorF_length b (ks.getD 0 [])
  rw [hb] at hx
  repeat first | (refine EffG.mk (And.intro ?_ ?_); focus ((repeat' (first | exact trivial | refine And.intro ?_ ?_)) <;> (first | omega | (simp only [hasTy, okP, lenD, D.ren, D.isCell, Option.getD, List.length_set, List.length_take, List.length_drop, List.length_append, List.length_replicate, List.length_map, List.length_cons, List.length_nil, Option.map] <;> omega) | with_reducible assumption | with_reducible rfl | decide); done)) | (refine And.intro ?_ ?_; focus ((repeat' (first | exact trivial | refine And.intro ?_ ?_)) <;> (first | omega | (simp only [hasTy, okP, lenD, D.ren, D.isCell, Option.getD, List.length_set, List.length_take, List.length_drop, List.length_append, List.length_replicate, List.length_map, List.length_cons, List.length_nil, Option.map] <;> omega) | with_reducible assumption | with_reducible rfl | decide); done)) | refine chkG (by kernel_rfl) ?_
  refine Br.no rfl ?_
  repeat first | (rw [nthD_u8s (l := ks)]; rotate_left; omega) | (refine EffG.mk (And.intro ?_ ?_); focus ((repeat' (first | exact trivial | refine And.intro ?_ ?_)) <;> (first | omega | (simp only [hasTy, okP, lenD, D.ren, D.isCell, Option.getD, List.length_set, List.length_take, List.length_drop, List.length_append, List.length_replicate, List.length_map, List.length_cons, List.length_nil, Option.map] <;> omega) | with_reducible assumption | with_reducible rfl | decide); done)) | (refine And.intro ?_ ?_; focus ((repeat' (first | exact trivial | refine And.intro ?_ ?_)) <;> (first | omega | (simp only [hasTy, okP, lenD, D.ren, D.isCell, Option.getD, List.length_set, List.length_take, List.length_drop, List.length_append, List.length_replicate, List.length_map, List.length_cons, List.length_nil, Option.map] <;> omega) | with_reducible assumption | with_reducible rfl | decide); done)) | refine chkG (by kernel_rfl) ?_
  refine callG (xor_ac b (ks.getD 0 []) hb (hk 0 (by omega))) [] rfl rfl trivial rfl rfl ?_
  repeat first | (refine EffG.mk (And.intro ?_ ?_); focus ((repeat' (first | exact trivial | refine And.intro ?_ ?_)) <;> (first | omega | (simp only [hasTy, okP, lenD, D.ren, D.isCell, Option.getD, List.length_set, List.length_take, List.length_drop, List.length_append, List.length_replicate, List.length_map, List.length_cons, List.length_nil, Option.map] <;> omega) | with_reducible assumption | with_reducible rfl | decide); done)) | (refine And.intro ?_ ?_; focus ((repeat' (first | exact trivial | refine And.intro ?_ ?_)) <;> (first | omega | (simp only [hasTy, okP, lenD, D.ren, D.isCell, Option.getD, List.length_set, List.length_take, List.length_drop, List.length_append, List.length_replicate, List.length_map, List.length_cons, List.length_nil, Option.map] <;> omega) | with_reducible assumption | with_reducible rfl | decide); done)) | refine chkG (by kernel_rfl) ?_
  refine loopG Nat (fun k => [(0, .ptr 0 []), (4, .ptr 2 []), (5, .ptr 3 []), (6, .i64 (k + 1 : Nat))])
    (fun k => [(0, some ⟨tC, keysD ks, true⟩), (2, some ⟨t16, .u8s (List.replicate 16 0), true⟩), (3, some ⟨t16, .u8s (encI ks b k), true⟩)]) 4 (fun k => k ≤ 14) (fun k => 14 - k) 0 [0, 1, 2, 3] (Nat.zero_le _) ?_ ?_
  · exact viewG rfl ⟨rfl, rfl, rfl, rfl, trivial⟩ ⟨⟨_, rfl, rfl, (ren_keysD _ ks).symm, id⟩, ⟨_, rfl, rfl, rfl, id⟩, ⟨_, rfl, rfl, rfl, id⟩, trivial⟩ rfl
  intro k hk14
  have hl := encI_length ks b hb k
  repeat first | (refine EffG.mk (And.intro ?_ ?_); focus ((repeat' (first | exact trivial | refine And.intro ?_ ?_)) <;> (first | omega | (simp only [hasTy, okP, lenD, D.ren, D.isCell, Option.getD, List.length_set, List.length_take, List.length_drop, List.length_append, List.length_replicate, List.length_map, List.length_cons, List.length_nil, Option.map] <;> omega) | with_reducible assumption | with_reducible rfl | decide); done)) | (refine And.intro ?_ ?_; focus ((repeat' (first | exact trivial | refine And.intro ?_ ?_)) <;> (first | omega | (simp only [hasTy, okP, lenD, D.ren, D.isCell, Option.getD, List.length_set, List.length_take, List.length_drop, List.length_append, List.length_replicate, List.length_map, List.length_cons, List.length_nil, Option.map] <;> omega) | with_reducible assumption | with_reducible rfl | decide); done)) | refine chkG (by kernel_rfl) ?_
  refine Br.split (fun h => ?_) (fun h => ?_)
  · have hk14 : k < 14 := by have := of_decide_eq_true h; omega
    repeat first | (refine EffG.mk (And.intro ?_ ?_); focus ((repeat' (first | exact trivial | refine And.intro ?_ ?_)) <;> (first | omega | (simp only [hasTy, okP, lenD, D.ren, D.isCell, Option.getD, List.length_set, List.length_take, List.length_drop, List.length_append, List.length_replicate, List.length_map, List.length_cons, List.length_nil, Option.map] <;> omega) | with_reducible assumption | with_reducible rfl | decide); done)) | (refine And.intro ?_ ?_; focus ((repeat' (first | exact trivial | refine And.intro ?_ ?_)) <;> (first | omega | (simp only [hasTy, okP, lenD, D.ren, D.isCell, Option.getD, List.length_set, List.length_take, List.length_drop, List.length_append, List.length_replicate, List.length_map, List.length_cons, List.length_nil, Option.map] <;> omega) | with_reducible assumption | with_reducible rfl | decide); done)) | refine chkG (by kernel_rfl) ?_
    refine loopG Nat (fun i => [(0, .ptr 0 []), (4, .ptr 2 []), (5, .ptr 3 []), (6, .i64 (k + 1 : Nat)), (7, .ptr 4 []), (23, .i64 i)])
      (fun i => [(0, some ⟨tC, keysD ks, true⟩), (2, some ⟨t16, .u8s (List.replicate 16 0), true⟩), (3, some ⟨t16, .u8s (encI ks b k), true⟩), (4, some ⟨t16, .u8s (subI (encI ks b k) i), true⟩)]) 5 (fun i => i ≤ 16) (fun i => 16 - i) 0 [0, 1, 2, 3, 4] (Nat.zero_le _) ?_ ?_
    · exact viewG rfl ⟨rfl, rfl, rfl, rfl, rfl, rfl, trivial⟩ ⟨⟨_, rfl, rfl, (ren_keysD _ ks).symm, id⟩, ⟨_, rfl, rfl, rfl, id⟩, ⟨_, rfl, rfl, rfl, id⟩, ⟨_, rfl, rfl, rfl, id⟩, trivial⟩ rfl
    intro i hi
    have hs := subI_length (encI ks b k) i
    repeat first | (refine EffG.mk (And.intro ?_ ?_); focus ((repeat' (first | exact trivial | refine And.intro ?_ ?_)) <;> (first | omega | (simp only [hasTy, okP, lenD, D.ren, D.isCell, Option.getD, List.length_set, List.length_take, List.length_drop, List.length_append, List.length_replicate, List.length_map, List.length_cons, List.length_nil, Option.map] <;> omega) | with_reducible assumption | with_reducible rfl | decide); done)) | (refine And.intro ?_ ?_; focus ((repeat' (first | exact trivial | refine And.intro ?_ ?_)) <;> (first | omega | (simp only [hasTy, okP, lenD, D.ren, D.isCell, Option.getD, List.length_set, List.length_take, List.length_drop, List.length_append, List.length_replicate, List.length_map, List.length_cons, List.length_nil, Option.map] <;> omega) | with_reducible assumption | with_reducible rfl | decide); done)) | refine chkG (by kernel_rfl) ?_
    refine Br.split (fun h => ?_) (fun h => ?_)
    · have hi : i < 16 := by have := of_decide_eq_true h; omega
      repeat first | (refine EffG.mk (And.intro ?_ ?_); focus ((repeat' (first | exact trivial | refine And.intro ?_ ?_)) <;> (first | omega | (simp only [hasTy, okP, lenD, D.ren, D.isCell, Option.getD, List.length_set, List.length_take, List.length_drop, List.length_append, List.length_replicate, List.length_map, List.length_cons, List.length_nil, Option.map] <;> omega) | with_reducible assumption | with_reducible rfl | decide); done)) | (refine And.intro ?_ ?_; focus ((repeat' (first | exact trivial | refine And.intro ?_ ?_)) <;> (first | omega | (simp only [hasTy, okP, lenD, D.ren, D.isCell, Option.getD, List.length_set, List.length_take, List.length_drop, List.length_append, List.length_replicate, List.length_map, List.length_cons, List.length_nil, Option.map] <;> omega) | with_reducible assumption | with_reducible rfl | decide); done)) | refine chkG (by kernel_rfl) ?_
      refine callG box_ac [] rfl rfl trivial rfl rfl ?_
      have e1 : Int.tmod (i : Int) 4 = ((i % 4 : Nat) : Int) := (Int.ofNat_tmod i 4).symm
      have e2 : Int.tmod ((i : Int) + 4 * ((i % 4 : Nat) : Int)) 16 = (((i + 4 * (i % 4)) % 16 : Nat) : Int) := Int.ofNat_tmod (i + 4 * (i % 4)) 16
      repeat first | rw [e1] | rw [e2] | refine EffG.mk (And.intro (byte_ix _ boxL boxL_length) ?_) | (refine EffG.mk (And.intro ?_ ?_); focus ((repeat' (first | exact trivial | refine And.intro ?_ ?_)) <;> (first | omega | (simp only [hasTy, okP, lenD, D.ren, D.isCell, Option.getD, List.length_set, List.length_take, List.length_drop, List.length_append, List.length_replicate, List.length_map, List.length_cons, List.length_nil, Option.map] <;> omega) | with_reducible assumption | with_reducible rfl | decide); done)) | (refine And.intro ?_ ?_; focus ((repeat' (first | exact trivial | refine And.intro ?_ ?_)) <;> (first | omega | (simp only [hasTy, okP, lenD, D.ren, D.isCell, Option.getD, List.length_set, List.length_take, List.length_drop, List.length_append, List.length_replicate, List.length_map, List.length_cons, List.length_nil, Option.map] <;> omega) | with_reducible assumption | with_reducible rfl | decide); done)) | refine chkG (by kernel_rfl) ?_
      refine nextG (i + 1) [0, 1, 2, 3, 4] ?_ ?_ ?_
      · omega
      · omega
      · exact viewG rfl ⟨rfl, rfl, rfl, rfl, rfl, rfl, trivial⟩ ⟨⟨_, rfl, rfl, (ren_keysD _ ks).symm, id⟩, ⟨_, rfl, rfl, rfl, id⟩, ⟨_, rfl, rfl, rfl, id⟩, ⟨_, rfl, rfl, rfl, id⟩, trivial⟩ rfl
    · have hi : i = 16 := by have := of_decide_eq_false h; omega
      subst hi
      repeat first | (refine EffG.mk (And.intro ?_ ?_); focus ((repeat' (first | exact trivial | refine And.intro ?_ ?_)) <;> (first | omega | (simp only [hasTy, okP, lenD, D.ren, D.isCell, Option.getD, List.length_set, List.length_take, List.length_drop, List.length_append, List.length_replicate, List.length_map, List.length_cons, List.length_nil, Option.map] <;> omega) | with_reducible assumption | with_reducible rfl | decide); done)) | (refine And.intro ?_ ?_; focus ((repeat' (first | exact trivial | refine And.intro ?_ ?_)) <;> (first | omega | (simp only [hasTy, okP, lenD, D.ren, D.isCell, Option.getD, List.length_set, List.length_take, List.length_drop, List.length_append, List.length_replicate, List.length_map, List.length_cons, List.length_nil, Option.map] <;> omega) | with_reducible assumption | with_reducible rfl | decide); done)) | refine chkG (by kernel_rfl) ?_
      have hmx := mixF_length (subI (encI ks b k) 16)
      rw [hs] at hmx
      refine joinG Unit (fun _ => [(0, .ptr 0 []), (4, .ptr 2 []), (5, .ptr 3 []), (6, .i64 (k + 1 : Nat)), (7, .ptr 4 [])])
        (fun _ => [(0, some ⟨tC, keysD ks, true⟩), (2, some ⟨t16, .u8s (List.replicate 16 0), true⟩), (3, some ⟨t16, .u8s (encI ks b k), true⟩), (4, some ⟨t16, .u8s (if k + 1 < 14 then mixF (subI (encI ks b k) 16) else subI (encI ks b k) 16), true⟩)]) 5 (fun _ => True) ?_ ?_
      · repeat first | (refine EffG.mk (And.intro ?_ ?_); focus ((repeat' (first | exact trivial | refine And.intro ?_ ?_)) <;> (first | omega | (simp only [hasTy, okP, lenD, D.ren, D.isCell, Option.getD, List.length_set, List.length_take, List.length_drop, List.length_append, List.length_replicate, List.length_map, List.length_cons, List.length_nil, Option.map] <;> omega) | with_reducible assumption | with_reducible rfl | decide); done)) | (refine And.intro ?_ ?_; focus ((repeat' (first | exact trivial | refine And.intro ?_ ?_)) <;> (first | omega | (simp only [hasTy, okP, lenD, D.ren, D.isCell, Option.getD, List.length_set, List.length_take, List.length_drop, List.length_append, List.length_replicate, List.length_map, List.length_cons, List.length_nil, Option.map] <;> omega) | with_reducible assumption | with_reducible rfl | decide); done)) | refine chkG (by kernel_rfl) ?_
        refine Br.split (fun h => ?_) (fun h => ?_)
        · have h : k + 1 < 14 := by have := of_decide_eq_true h; omega
          repeat first | (refine EffG.mk (And.intro ?_ ?_); focus ((repeat' (first | exact trivial | refine And.intro ?_ ?_)) <;> (first | omega | (simp only [hasTy, okP, lenD, D.ren, D.isCell, Option.getD, List.length_set, List.length_take, List.length_drop, List.length_append, List.length_replicate, List.length_map, List.length_cons, List.length_nil, Option.map] <;> omega) | with_reducible assumption | with_reducible rfl | decide); done)) | (refine And.intro ?_ ?_; focus ((repeat' (first | exact trivial | refine And.intro ?_ ?_)) <;> (first | omega | (simp only [hasTy, okP, lenD, D.ren, D.isCell, Option.getD, List.length_set, List.length_take, List.length_drop, List.length_append, List.length_replicate, List.length_map, List.length_cons, List.length_nil, Option.map] <;> omega) | with_reducible assumption | with_reducible rfl | decide); done)) | refine chkG (by kernel_rfl) ?_
          refine callG (mixed_ac _ hs) [] rfl rfl trivial rfl rfl ?_
          repeat first | (refine EffG.mk (And.intro ?_ ?_); focus ((repeat' (first | exact trivial | refine And.intro ?_ ?_)) <;> (first | omega | (simp only [hasTy, okP, lenD, D.ren, D.isCell, Option.getD, List.length_set, List.length_take, List.length_drop, List.length_append, List.length_replicate, List.length_map, List.length_cons, List.length_nil, Option.map] <;> omega) | with_reducible assumption | with_reducible rfl | decide); done)) | (refine And.intro ?_ ?_; focus ((repeat' (first | exact trivial | refine And.intro ?_ ?_)) <;> (first | omega | (simp only [hasTy, okP, lenD, D.ren, D.isCell, Option.getD, List.length_set, List.length_take, List.length_drop, List.length_append, List.length_replicate, List.length_map, List.length_cons, List.length_nil, Option.map] <;> omega) | with_reducible assumption | with_reducible rfl | decide); done)) | refine chkG (by kernel_rfl) ?_
          refine meetG () [0, 1, 2, 3, 4] trivial ?_
          exact viewG rfl ⟨rfl, rfl, rfl, rfl, rfl, trivial⟩ ⟨⟨_, rfl, rfl, (ren_keysD _ ks).symm, id⟩, ⟨_, rfl, rfl, rfl, id⟩, ⟨_, rfl, rfl, rfl, id⟩, ⟨_, rfl, rfl, congrArg D.u8s (if_pos h).symm, id⟩, trivial⟩ rfl
        · have h : ¬ k + 1 < 14 := by have := of_decide_eq_false h; omega
          refine meetG () [0, 1, 2, 3, 4] trivial ?_
          exact viewG rfl ⟨rfl, rfl, rfl, rfl, rfl, trivial⟩ ⟨⟨_, rfl, rfl, (ren_keysD _ ks).symm, id⟩, ⟨_, rfl, rfl, rfl, id⟩, ⟨_, rfl, rfl, rfl, id⟩, ⟨_, rfl, rfl, congrArg D.u8s (if_neg h).symm, id⟩, trivial⟩ rfl
      intro _ _
      have ht : (if k + 1 < 14 then mixF (subI (encI ks b k) 16) else subI (encI ks b k) 16).length = 16 := by
        split
        · exact hmx
        · exact hs
      have hx2 := xorF_length (if k + 1 < 14 then mixF (subI (encI ks b k) 16) else subI (encI ks b k) 16) (ks.getD (k + 1) [])
      rw [ht] at hx2
      repeat first | (rw [nthD_u8s (l := ks)]; rotate_left; omega) | rw [Int.toNat_natCast (k + 1)] | (refine EffG.mk (And.intro ?_ ?_); focus ((repeat' (first | exact trivial | refine And.intro ?_ ?_)) <;> (first | omega | (simp only [hasTy, okP, lenD, D.ren, D.isCell, Option.getD, List.length_set, List.length_take, List.length_drop, List.length_append, List.length_replicate, List.length_map, List.length_cons, List.length_nil, Option.map] <;> omega) | with_reducible assumption | with_reducible rfl | decide); done)) | (refine And.intro ?_ ?_; focus ((repeat' (first | exact trivial | refine And.intro ?_ ?_)) <;> (first | omega | (simp only [hasTy, okP, lenD, D.ren, D.isCell, Option.getD, List.length_set, List.length_take, List.length_drop, List.length_append, List.length_replicate, List.length_map, List.length_cons, List.length_nil, Option.map] <;> omega) | with_reducible assumption | with_reducible rfl | decide); done)) | refine chkG (by kernel_rfl) ?_
      refine callG (xor_ac _ (ks.getD (k + 1) []) ht (hk (k + 1) (by omega))) [] rfl rfl trivial rfl rfl ?_
      repeat first | (refine EffG.mk (And.intro ?_ ?_); focus ((repeat' (first | exact trivial | refine And.intro ?_ ?_)) <;> (first | omega | (simp only [hasTy, okP, lenD, D.ren, D.isCell, Option.getD, List.length_set, List.length_take, List.length_drop, List.length_append, List.length_replicate, List.length_map, List.length_cons, List.length_nil, Option.map] <;> omega) | with_reducible assumption | with_reducible rfl | decide); done)) | (refine And.intro ?_ ?_; focus ((repeat' (first | exact trivial | refine And.intro ?_ ?_)) <;> (first | omega | (simp only [hasTy, okP, lenD, D.ren, D.isCell, Option.getD, List.length_set, List.length_take, List.length_drop, List.length_append, List.length_replicate, List.length_map, List.length_cons, List.length_nil, Option.map] <;> omega) | with_reducible assumption | with_reducible rfl | decide); done)) | refine chkG (by kernel_rfl) ?_
      refine nextG (k + 1) [0, 1, 2, 3] ?_ ?_ ?_
      · omega
      · omega
      · exact viewG rfl ⟨rfl, rfl, rfl, rfl, trivial⟩ ⟨⟨_, rfl, rfl, (ren_keysD _ ks).symm, id⟩, ⟨_, rfl, rfl, rfl, id⟩, ⟨_, rfl, rfl, rfl, id⟩, trivial⟩ rfl
  · have hk14 : k = 14 := by have := of_decide_eq_false h; omega
    repeat first | (refine EffG.mk (And.intro ?_ ?_); focus ((repeat' (first | exact trivial | refine And.intro ?_ ?_)) <;> (first | omega | (simp only [hasTy, okP, lenD, D.ren, D.isCell, Option.getD, List.length_set, List.length_take, List.length_drop, List.length_append, List.length_replicate, List.length_map, List.length_cons, List.length_nil, Option.map] <;> omega) | with_reducible assumption | with_reducible rfl | decide); done)) | (refine And.intro ?_ ?_; focus ((repeat' (first | exact trivial | refine And.intro ?_ ?_)) <;> (first | omega | (simp only [hasTy, okP, lenD, D.ren, D.isCell, Option.getD, List.length_set, List.length_take, List.length_drop, List.length_append, List.length_replicate, List.length_map, List.length_cons, List.length_nil, Option.map] <;> omega) | with_reducible assumption | with_reducible rfl | decide); done)) | refine chkG (by kernel_rfl) ?_
    refine retG [0] ?_ rfl ⟨⟨_, rfl, rfl, (ren_keysD _ ks).symm, id⟩, trivial⟩ rfl
    refine congrArg D.u8s ?_
    rw [hk14]
end Go.Proofs.YtodkhgofmgaafaaDoor.Av

namespace Go.Proofs.YtodkhgofmgaafaaDoor.Av
open Go
set_option linter.all false
set_option maxRecDepth 3000

/-! sums with a key; wrapped keys -/
def hmF (key m : List (BitVec 8)) : List (BitVec 8) := shaF (opF key ++ shaF (ipF key ++ m))
theorem hmF_length (key m : List (BitVec 8)) : (hmF key m).length = 32 := shaF_length _

/-- the first piece behind the key's block -/
theorem ip0 {N : List (BitVec 8)} (h : N.length = 64) : (N.drop 64).take (N.length % 64) = reF N := by rw [reF, h, List.drop_of_length_le (by omega)]; rfl

theorem hof1_ac (ks ss : List (BitVec 8)) (p k q l : Nat) (c d : Option Nat) (ha : p + k ≤ ks.length) (hb : q + l ≤ ss.length) (hk : k ≤ 64) (hl0 : 0 < l) (hl : l ≤ 35184372088832) :
    AC Tryd.prog 58 [.slice 0 [] p k c, .slice 1 [] 0 1 (some 1)] 3 [(0, some ⟨.row .cell, .u8s ks, false⟩), (1, some ⟨.row .cell, .node [.slice 2 [] q l d], true⟩), (2, some ⟨.row .cell, .u8s ss, false⟩), gR]
      ⟨.u8s (hmF ((ks.drop p).take k) ((ss.drop q).take l)), [], []⟩ := by
  have hkl : ((ks.drop p).take k).length = k := by rw [List.length_take, List.length_drop]; omega
  have hbl : ((ss.drop q).take l).length = l := by rw [List.length_take, List.length_drop]; omega
  have hn := hnew_ac ks p k c ha hk
  have e : hmF ((ks.drop p).take k) ((ss.drop q).take l) = shaF (opF ((ks.drop p).take k) ++ shaF (ipF ((ks.drop p).take k) ++ (ss.drop q).take l)) := rfl
  have hO := opF_length ((ks.drop p).take k)
  have hN := ipF_length (key := (ks.drop p).take k) (by omega)
  generalize hmF ((ks.drop p).take k) ((ss.drop q).take l) = y at e ⊢
  generalize opF ((ks.drop p).take k) = O at hn e hO
  generalize ipF ((ks.drop p).take k) = N at hn e hN
  have hw := macwrite_ac O N N ss 64 q l d (ip0 hN) (by rw [hN]; decide) hb hl0 hl (by omega)
  have hr := writeM_rest N ((ss.drop q).take l) hbl
  have hm := writeM_room N ((ss.drop q).take l) hbl
  rw [hN] at hr hm
  generalize (ss.drop q).take l = b at hw hr hm e hbl
  have hNl : (N ++ b).length = 64 + l := by rw [List.length_append, hN, hbl]
  have hs := macsum_ac O (N ++ b) (reF N ++ b) (64 * ((64 % 64 + l) / 64)) (by rw [hNl]; exact hr) (by rw [hNl]; exact hm) (by omega) hO
  rw [← e, hNl] at hs
  rw [hN] at hw
  have hy : y.length = 32 := by rw [e]; exact shaF_length _
  refine acA tab mix Tryd.func58 ⟨[], [3]⟩ ?_
  repeat first | refine EffG.mk (obA ?_) | refine obA ?_ | refine chkA ?_
  refine callA hn [0] ?_
  repeat first | refine EffG.mk (obA ?_) | refine obA ?_ | refine chkA ?_
  refine unrG 2 ?_
  repeat first | refine EffG.mk (obA ?_) | refine obA ?_ | refine chkA ?_ | refine brY ?_ | refine brN ?_
  refine callA hw [4, 5, 2, 6] ?_
  repeat first | refine EffG.mk (obA ?_) | refine obA ?_ | refine chkA ?_ | refine brY ?_ | refine brN ?_
  refine callA hs [4, 5, 7] ?_
  repeat first | refine EffG.mk (obA ?_) | refine obA ?_ | refine chkA ?_
  refine retA [0, 1, 2]

theorem hof2_ac (ks ss us : List (BitVec 8)) (p k q l r n : Nat) (c d f : Option Nat) (ha : p + k ≤ ks.length) (hb : q + l ≤ ss.length) (hc : r + n ≤ us.length) (hk : k ≤ 64) (hl0 : 0 < l) (hl : l ≤ 35184372088832) (hn0 : 0 < n) (hn : n ≤ 35184372088832) :
    AC Tryd.prog 58 [.slice 0 [] p k c, .slice 1 [] 0 2 (some 2)] 4 [(0, some ⟨.row .cell, .u8s ks, false⟩), (1, some ⟨.row .cell, .node [.slice 2 [] q l d, .slice 3 [] r n f], true⟩), (2, some ⟨.row .cell, .u8s ss, false⟩), (3, some ⟨.row .cell, .u8s us, false⟩), gR]
      ⟨.u8s (hmF ((ks.drop p).take k) ((ss.drop q).take l ++ (us.drop r).take n)), [], []⟩ := by
  have hkl : ((ks.drop p).take k).length = k := by rw [List.length_take, List.length_drop]; omega
  have hbl : ((ss.drop q).take l).length = l := by rw [List.length_take, List.length_drop]; omega
  have hul : ((us.drop r).take n).length = n := by rw [List.length_take, List.length_drop]; omega
  have hn := hnew_ac ks p k c ha hk
  have e : hmF ((ks.drop p).take k) ((ss.drop q).take l ++ (us.drop r).take n) = shaF (opF ((ks.drop p).take k) ++ shaF (ipF ((ks.drop p).take k) ++ ((ss.drop q).take l ++ (us.drop r).take n))) := rfl
  rw [← List.append_assoc] at e
  have hO := opF_length ((ks.drop p).take k)
  have hN := ipF_length (key := (ks.drop p).take k) (by omega)
  generalize hmF ((ks.drop p).take k) ((ss.drop q).take l ++ (us.drop r).take n) = y at e ⊢
  generalize opF ((ks.drop p).take k) = O at hn e hO
  generalize ipF ((ks.drop p).take k) = N at hn e hN
  have hw := macwrite_ac O N N ss 64 q l d (ip0 hN) (by rw [hN]; decide) hb hl0 hl (by omega)
  have hr := writeM_rest N ((ss.drop q).take l) hbl
  have hm := writeM_room N ((ss.drop q).take l) hbl
  rw [hN] at hr hm
  generalize (ss.drop q).take l = b at hw hr hm e hbl
  have hNl : (N ++ b).length = 64 + l := by rw [List.length_append, hN, hbl]
  have hw2 := macwrite_ac O (N ++ b) (reF N ++ b) us (64 * ((64 % 64 + l) / 64)) r n f (by rw [hNl]; exact hr) (by rw [hNl]; exact hm) hc hn0 (by omega) (by omega)
  have hr2 := writeM_rest (N ++ b) ((us.drop r).take n) hul
  have hm2 := writeM_room (N ++ b) ((us.drop r).take n) hul
  rw [hNl] at hr2 hm2
  generalize (us.drop r).take n = u at hw2 hr2 hm2 e hul
  have hNl2 : (N ++ b ++ u).length = 64 + l + n := by rw [List.length_append, hNl, hul]
  have hs := macsum_ac O (N ++ b ++ u) (reF (N ++ b) ++ u) (64 * (((64 + l) % 64 + n) / 64)) (by rw [hNl2]; exact hr2) (by rw [hNl2]; exact hm2) (by omega) hO
  rw [← e, hNl2] at hs
  rw [hNl] at hw2
  rw [hN] at hw
  have hy : y.length = 32 := by rw [e]; exact shaF_length _
  refine acA tab mix Tryd.func58 ⟨[], [3]⟩ ?_
  repeat first | refine EffG.mk (obA ?_) | refine obA ?_ | refine chkA ?_
  refine callA hn [0] ?_
  repeat first | refine EffG.mk (obA ?_) | refine obA ?_ | refine chkA ?_
  refine unrG 3 ?_
  repeat first | refine EffG.mk (obA ?_) | refine obA ?_ | refine chkA ?_ | refine brY ?_ | refine brN ?_
  refine callA hw [5, 6, 2, 7] ?_
  repeat first | refine EffG.mk (obA ?_) | refine obA ?_ | refine chkA ?_ | refine brY ?_ | refine brN ?_
  refine callA hw2 [5, 6, 3, 8] ?_
  repeat first | refine EffG.mk (obA ?_) | refine obA ?_ | refine chkA ?_ | refine brY ?_ | refine brN ?_
  refine callA hs [5, 6, 9] ?_
  repeat first | refine EffG.mk (obA ?_) | refine obA ?_ | refine chkA ?_
  refine retA [0, 1, 2, 3]

/-! are bytes the same? -/
def apI (a b : List (BitVec 8)) : Nat → BitVec 8
  | 0 => 0
  | i + 1 => apI a b i ||| (a.getD i 0 ^^^ b.getD i 0)
theorem or_zero {x y : BitVec 8} : x ||| y = 0 ↔ x = 0 ∧ y = 0 := by
  refine ⟨fun h => ⟨?_, ?_⟩, fun ⟨h, h'⟩ => by rw [h, h']; rfl⟩
  · refine BitVec.eq_of_getLsbD_eq fun i _ => ?_
    have := congrArg (fun z => BitVec.getLsbD z i) h
    simp only [BitVec.getLsbD_or] at this
    revert this; cases x.getLsbD i <;> simp
  · refine BitVec.eq_of_getLsbD_eq fun i _ => ?_
    have := congrArg (fun z => BitVec.getLsbD z i) h
    simp only [BitVec.getLsbD_or] at this
    revert this; cases y.getLsbD i <;> simp
theorem xor_zero {x y : BitVec 8} : x ^^^ y = 0 ↔ x = y := by
  refine ⟨fun h => ?_, fun h => by rw [h, BitVec.xor_self]; rfl⟩
  refine BitVec.eq_of_getLsbD_eq fun i _ => ?_
  have := congrArg (fun z => BitVec.getLsbD z i) h
  simp only [BitVec.getLsbD_xor] at this
  revert this; cases x.getLsbD i <;> cases y.getLsbD i <;> simp
theorem apI_zero (a b : List (BitVec 8)) : ∀ n, apI a b n = 0 ↔ ∀ i, i < n → a.getD i 0 = b.getD i 0
  | 0 => ⟨fun _ i h => absurd h (Nat.not_lt_zero i), fun _ => rfl⟩
  | n + 1 => by
    rw [apI, or_zero, apI_zero a b n, xor_zero]
    refine ⟨fun ⟨h1, h2⟩ i hi => ?_, fun h => ⟨fun i hi => h i (by omega), h n (by omega)⟩⟩
    rcases Nat.lt_or_ge i n with h | h
    · exact h1 i h
    · obtain rfl : i = n := by omega
      exact h2
theorem eq_getD {a b : List (BitVec 8)} (hl : a.length = b.length) (h : ∀ i, i < a.length → a.getD i 0 = b.getD i 0) : a = b := by
  refine List.ext_getElem hl fun i h1 h2 => ?_
  have := h i h1
  simpa [List.getD_eq_getElem?_getD, List.getElem?_eq_getElem h1, List.getElem?_eq_getElem h2] using this
theorem equal_ac (ss us : List (BitVec 8)) (n : Nat) (c d : Option Nat) (hs : ss.length = n) (hu : us.length = n) (hn : n ≤ 1000000) :
    AC Tryd.prog 90 [.slice 0 [] 0 n c, .slice 1 [] 0 n d] 2 [(0, some ⟨.row .cell, .u8s ss, false⟩), (1, some ⟨.row .cell, .u8s us, false⟩)] ⟨.bool (decide (ss = us)), [], []⟩ := by
  have hE : decide (ss = us) = decide (apI ss us n = 0) := by
    refine decide_eq_decide.2 ⟨fun h => (apI_zero ss us n).2 fun i _ => by rw [h], fun h => eq_getD (by omega) fun i hi => (apI_zero ss us n).1 h i (by omega)⟩
  rw [hE]
  refine acA tab mix Tryd.func90 {} ?_
  repeat first | refine EffG.mk (obA ?_) | refine obA ?_ | refine chkA ?_
  refine Br.no (by simp) ?_
  repeat first | refine EffG.mk (obA ?_) | refine obA ?_ | refine chkA ?_
  refine loopG Nat (fun i => [(0, .slice 0 [] 0 n c), (1, .slice 1 [] 0 n d), (5, .u8 (apI ss us i)), (13, .i64 n), (14, .i64 i)]) (fun i => [(0, some ⟨.row .cell, .u8s ss, false⟩), (1, some ⟨.row .cell, .u8s us, false⟩)]) 2 (fun i => i ≤ n) (fun i => n - i) 0 [0, 1] (Nat.zero_le _) viewA ?_
  intro i hi
  repeat first | refine EffG.mk (obA ?_) | refine obA ?_ | refine chkA ?_
  refine Br.split (fun h => ?_) (fun h => ?_)
  · have hi : i < n := by have := of_decide_eq_true h; omega
    repeat first | refine EffG.mk (obA ?_) | refine obA ?_ | refine chkA ?_
    refine nextA (i + 1) [0, 1] viewA
  · obtain rfl : i = n := by have := of_decide_eq_false h; omega
    repeat first | refine EffG.mk (obA ?_) | refine obA ?_ | refine chkA ?_
    refine retA [0, 1]

def oursF : List (BitVec 8) := [114, 101, 108, 105, 113, 117, 97, 114, 121, 32]
def labF (key l : List (BitVec 8)) : List (BitVec 8) := hmF key (oursF ++ l)
theorem labF_length (key l : List (BitVec 8)) : (labF key l).length = 32 := hmF_length _ _
theorem label_ac (key l : List (BitVec 8)) (hk : key.length = 32) (h0 : 0 < l.length) (hl : l.length ≤ 100) : AC Tryd.prog 76 [.u8s key, .str l] 0 [gR] ⟨.u8s (labF key l), [], []⟩ := by
  have ho := hof2_ac key oursF l 0 32 0 10 0 l.length (some 32) (some 10) none (by omega) (by decide) (by omega) (by decide) (by decide) (by decide) h0 (by omega)
  have e : labF key l = hmF key (oursF ++ l) := rfl
  rw [List.drop_zero, List.drop_zero, List.drop_zero, List.take_of_length_le (by omega), List.take_of_length_le (by decide), List.take_of_length_le (Nat.le_refl _), ← e] at ho
  have hy := labF_length key l
  generalize labF key l = y at ho hy ⊢
  refine acA tab mix Tryd.func76 {} ?_
  repeat first | refine EffG.mk (obA ?_) | refine obA ?_ | refine chkA ?_
  refine callA (ho.arr 0 32) [0, 4, 2, 3] ?_
  repeat first | refine EffG.mk (obA ?_) | refine obA ?_ | refine chkA ?_
  refine retA []
end Go.Proofs.YtodkhgofmgaafaaDoor.Av

namespace Go.Proofs.YtodkhgofmgaafaaDoor.Av
open Go
set_option linter.all false
set_option maxRecDepth 3000

theorem hof1S_ac (ks ss : List (BitVec 8)) (k q l : Nat) (x d : Option Nat) (ha : ks.length = k) (hx : x = none → k = 0) (hb : q + l ≤ ss.length) (hk : k ≤ 1000000) (hl0 : 0 < l) (hl : l ≤ 35184372088832) :
    AC Tryd.prog 58 [slD 0 k x, .slice 1 [] 0 1 (some 1)] 3 [(0, some ⟨.row .cell, .u8s ks, false⟩), (1, some ⟨.row .cell, .node [.slice 2 [] q l d], true⟩), (2, some ⟨.row .cell, .u8s ss, false⟩), gR]
      ⟨.u8s (hmF (keyN ks) ((ss.drop q).take l)), [], []⟩ := by
  have hkl := keyN_length ks
  have hbl : ((ss.drop q).take l).length = l := by rw [List.length_take, List.length_drop]; omega
  have hn := hnew_any_ac ks k x ha hx hk
  have e : hmF (keyN ks) ((ss.drop q).take l) = shaF (opF (keyN ks) ++ shaF (ipF (keyN ks) ++ (ss.drop q).take l)) := rfl
  have hO := opF_length (keyN ks)
  have hN := ipF_length (key := keyN ks) (by omega)
  generalize hmF (keyN ks) ((ss.drop q).take l) = y at e ⊢
  generalize opF (keyN ks) = O at hn e hO
  generalize ipF (keyN ks) = N at hn e hN
  have hw := macwrite_ac O N N ss 64 q l d (ip0 hN) (by rw [hN]; decide) hb hl0 hl (by omega)
  have hr := writeM_rest N ((ss.drop q).take l) hbl
  have hm := writeM_room N ((ss.drop q).take l) hbl
  rw [hN] at hr hm
  generalize (ss.drop q).take l = b at hw hr hm e hbl
  have hNl : (N ++ b).length = 64 + l := by rw [List.length_append, hN, hbl]
  have hs := macsum_ac O (N ++ b) (reF N ++ b) (64 * ((64 % 64 + l) / 64)) (by rw [hNl]; exact hr) (by rw [hNl]; exact hm) (by omega) hO
  rw [← e, hNl] at hs
  rw [hN] at hw
  have hy : y.length = 32 := by rw [e]; exact shaF_length _
  refine acA tab mix Tryd.func58 ⟨[], [3]⟩ ?_
  repeat first | refine EffG.mk (obA ?_) | refine obA ?_ | refine chkA ?_
  refine callA hn [0] ?_
  repeat first | refine EffG.mk (obA ?_) | refine obA ?_ | refine chkA ?_
  refine unrG 2 ?_
  repeat first | refine EffG.mk (obA ?_) | refine obA ?_ | refine chkA ?_ | refine brY ?_ | refine brN ?_
  refine callA hw [4, 5, 2, 6] ?_
  repeat first | refine EffG.mk (obA ?_) | refine obA ?_ | refine chkA ?_ | refine brY ?_ | refine brN ?_
  refine callA hs [4, 5, 7] ?_
  repeat first | refine EffG.mk (obA ?_) | refine obA ?_ | refine chkA ?_
  refine retA [0, 1, 2]

theorem hof2S_ac (ks ss us : List (BitVec 8)) (k q l r n : Nat) (x d f : Option Nat) (ha : ks.length = k) (hx : x = none → k = 0) (hb : q + l ≤ ss.length) (hc : r + n ≤ us.length) (hk : k ≤ 1000000) (hl0 : 0 < l) (hl : l ≤ 35184372088832) (hn0 : 0 < n) (hn : n ≤ 35184372088832) :
    AC Tryd.prog 58 [slD 0 k x, .slice 1 [] 0 2 (some 2)] 4 [(0, some ⟨.row .cell, .u8s ks, false⟩), (1, some ⟨.row .cell, .node [.slice 2 [] q l d, .slice 3 [] r n f], true⟩), (2, some ⟨.row .cell, .u8s ss, false⟩), (3, some ⟨.row .cell, .u8s us, false⟩), gR]
      ⟨.u8s (hmF (keyN ks) ((ss.drop q).take l ++ (us.drop r).take n)), [], []⟩ := by
  have hkl := keyN_length ks
  have hbl : ((ss.drop q).take l).length = l := by rw [List.length_take, List.length_drop]; omega
  have hul : ((us.drop r).take n).length = n := by rw [List.length_take, List.length_drop]; omega
  have hn := hnew_any_ac ks k x ha hx hk
  have e : hmF (keyN ks) ((ss.drop q).take l ++ (us.drop r).take n) = shaF (opF (keyN ks) ++ shaF (ipF (keyN ks) ++ ((ss.drop q).take l ++ (us.drop r).take n))) := rfl
  rw [← List.append_assoc] at e
  have hO := opF_length (keyN ks)
  have hN := ipF_length (key := keyN ks) (by omega)
  generalize hmF (keyN ks) ((ss.drop q).take l ++ (us.drop r).take n) = y at e ⊢
  generalize opF (keyN ks) = O at hn e hO
  generalize ipF (keyN ks) = N at hn e hN
  have hw := macwrite_ac O N N ss 64 q l d (ip0 hN) (by rw [hN]; decide) hb hl0 hl (by omega)
  have hr := writeM_rest N ((ss.drop q).take l) hbl
  have hm := writeM_room N ((ss.drop q).take l) hbl
  rw [hN] at hr hm
  generalize (ss.drop q).take l = b at hw hr hm e hbl
  have hNl : (N ++ b).length = 64 + l := by rw [List.length_append, hN, hbl]
  have hw2 := macwrite_ac O (N ++ b) (reF N ++ b) us (64 * ((64 % 64 + l) / 64)) r n f (by rw [hNl]; exact hr) (by rw [hNl]; exact hm) hc hn0 (by omega) (by omega)
  have hr2 := writeM_rest (N ++ b) ((us.drop r).take n) hul
  have hm2 := writeM_room (N ++ b) ((us.drop r).take n) hul
  rw [hNl] at hr2 hm2
  generalize (us.drop r).take n = u at hw2 hr2 hm2 e hul
  have hNl2 : (N ++ b ++ u).length = 64 + l + n := by rw [List.length_append, hNl, hul]
  have hs := macsum_ac O (N ++ b ++ u) (reF (N ++ b) ++ u) (64 * (((64 + l) % 64 + n) / 64)) (by rw [hNl2]; exact hr2) (by rw [hNl2]; exact hm2) (by omega) hO
  rw [← e, hNl2] at hs
  rw [hNl] at hw2
  rw [hN] at hw
  have hy : y.length = 32 := by rw [e]; exact shaF_length _
  refine acA tab mix Tryd.func58 ⟨[], [3]⟩ ?_
  repeat first | refine EffG.mk (obA ?_) | refine obA ?_ | refine chkA ?_
  refine callA hn [0] ?_
  repeat first | refine EffG.mk (obA ?_) | refine obA ?_ | refine chkA ?_
  refine unrG 3 ?_
  repeat first | refine EffG.mk (obA ?_) | refine obA ?_ | refine chkA ?_ | refine brY ?_ | refine brN ?_
  refine callA hw [5, 6, 2, 7] ?_
  repeat first | refine EffG.mk (obA ?_) | refine obA ?_ | refine chkA ?_ | refine brY ?_ | refine brN ?_
  refine callA hw2 [5, 6, 3, 8] ?_
  repeat first | refine EffG.mk (obA ?_) | refine obA ?_ | refine chkA ?_ | refine brY ?_ | refine brN ?_
  refine callA hs [5, 6, 9] ?_
  repeat first | refine EffG.mk (obA ?_) | refine obA ?_ | refine chkA ?_
  refine retA [0, 1, 2, 3]

end Go.Proofs.YtodkhgofmgaafaaDoor.Av

namespace Go.Proofs.YtodkhgofmgaafaaDoor.Av
open Go
set_option linter.all false
set_option maxRecDepth 3000

/-! keys of passphrases -/
def xoI (a l : List (BitVec 8)) : Nat → List (BitVec 8)
  | 0 => a
  | i + 1 => (xoI a l i).set i ((xoI a l i).getD i 0 ^^^ l.getD i 0)
theorem xoI_length (a l : List (BitVec 8)) : ∀ i, (xoI a l i).length = a.length
  | 0 => rfl
  | i + 1 => by rw [xoI, List.length_set, xoI_length a l i]
/-- the last sum, and all of them together -/
def dkL (key m : List (BitVec 8)) : Nat → List (BitVec 8)
  | 0 => hmF key m
  | i + 1 => hmF key (dkL key m i)
def dkA (key m : List (BitVec 8)) : Nat → List (BitVec 8)
  | 0 => hmF key m
  | i + 1 => xoI (dkA key m i) (dkL key m (i + 1)) 32
theorem dkL_length (key m : List (BitVec 8)) : ∀ i, (dkL key m i).length = 32
  | 0 => hmF_length _ _
  | i + 1 => hmF_length _ _
theorem dkA_length (key m : List (BitVec 8)) : ∀ i, (dkA key m i).length = 32
  | 0 => hmF_length _ _
  | i + 1 => by rw [dkA, xoI_length, dkA_length key m i]
def dkF (pass salt : List (BitVec 8)) (n : Nat) : List (BitVec 8) := dkA (keyN pass) (salt ++ [0, 0, 0, 1]) (n - 1)
theorem dkF_length (pass salt : List (BitVec 8)) (n : Nat) : (dkF pass salt n).length = 32 := dkA_length _ _ _

theorem derive_ac (ks ss : List (BitVec 8)) (k n : Nat) (x : Option Nat) (ha : ks.length = k) (hx : x = none → k = 0) (hk : k ≤ 512) (hs : ss.length = 16) (h1 : 1 ≤ n) (h2 : n ≤ 4096) :
    AC Tryd.prog 20 [slD 0 k x, .slice 1 [] 0 16 (some 16), .i64 n, .i64 32] 2 [(0, some ⟨.row .cell, .u8s ks, false⟩), (1, some ⟨.row .cell, .u8s ss, false⟩), gR]
      ⟨.tup [.slice 2 [] 0 32 none, .i64 0], [], [(.row .cell, .u8s (dkF ks ss n))]⟩ := by
  have h0 := hof2S_ac ks ss (nbF (BitVec.setWidth 64 1#32) 4) k 0 16 0 4 x (some 16) none ha hx (by omega) (by rw [nbF_length]; decide) (by omega) (by decide) (by decide) (by decide) (by decide)
  have hn4 : nbF (BitVec.setWidth 64 1#32) 4 = [0, 0, 0, 1] := by decide
  rw [hn4, List.drop_zero, List.take_of_length_le (by omega), List.drop_zero, List.take_of_length_le (by decide)] at h0
  have hp := put32_ac 1#32
  rw [hn4] at hp
  have h9 : ∀ i, AC Tryd.prog 58 [slD 0 k x, .slice 1 [] 0 1 (some 1)] 3 [(0, some ⟨.row .cell, .u8s ks, false⟩), (1, some ⟨.row .cell, .node [.slice 2 [] 0 32 (some 32)], true⟩), (2, some ⟨.row .cell, .u8s (dkL (keyN ks) (ss ++ [0, 0, 0, 1]) i), false⟩), gR]
      ⟨.u8s (dkL (keyN ks) (ss ++ [0, 0, 0, 1]) (i + 1)), [], []⟩ := fun i => by
    have hl := dkL_length (keyN ks) (ss ++ [0, 0, 0, 1]) i
    have := hof1S_ac ks (dkL (keyN ks) (ss ++ [0, 0, 0, 1]) i) k 0 32 x (some 32) ha hx (by omega) (by omega) (by decide) (by decide)
    rw [List.drop_zero, List.take_of_length_le (by omega)] at this
    exact this
  have h9 : ∀ i, AC Tryd.prog 58 [slD 0 k x, .slice 1 [] 0 1 (some 1)] 3 [(2, some ⟨t32, .u8s (dkL (keyN ks) (ss ++ [0, 0, 0, 1]) i), false⟩), (0, some ⟨.row .cell, .u8s ks, false⟩), (1, some ⟨.row .cell, .node [.slice 2 [] 0 32 (some 32)], true⟩), gR]
      ⟨.u8s (dkL (keyN ks) (ss ++ [0, 0, 0, 1]) (i + 1)), [], []⟩ := fun i => by
    have := (h9 i).arr 2 32
    cases x <;> exact this
  have hll := dkL_length (keyN ks) (ss ++ [0, 0, 0, 1])
  have hal := dkA_length (keyN ks) (ss ++ [0, 0, 0, 1])
  have ha0 : dkA (keyN ks) (ss ++ [0, 0, 0, 1]) 0 = dkL (keyN ks) (ss ++ [0, 0, 0, 1]) 0 := rfl
  have ha1 : ∀ i, dkA (keyN ks) (ss ++ [0, 0, 0, 1]) (i + 1) = xoI (dkA (keyN ks) (ss ++ [0, 0, 0, 1]) i) (dkL (keyN ks) (ss ++ [0, 0, 0, 1]) (i + 1)) 32 := fun _ => rfl
  have hf : dkF ks ss n = dkA (keyN ks) (ss ++ [0, 0, 0, 1]) (n - 1) := rfl
  rw [show hmF (keyN ks) (ss ++ [0, 0, 0, 1]) = dkL (keyN ks) (ss ++ [0, 0, 0, 1]) 0 from rfl] at h0
  rw [hf]
  generalize dkL (keyN ks) (ss ++ [0, 0, 0, 1]) = L at *
  generalize dkA (keyN ks) (ss ++ [0, 0, 0, 1]) = A at *
  have hl0 := hll 0
  refine acA tab mix Tryd.func20 ⟨[], [7]⟩ ?_
  repeat first | refine EffG.mk (obA ?_) | refine obA ?_ | refine chkA ?_ | refine brY ?_ | refine brN ?_ | refine lenS rfl rfl rfl rfl hx rfl rfl ?_
  refine unrG 2 ?_
  repeat first | refine EffG.mk (obA ?_) | refine obA ?_ | refine chkA ?_ | refine brY ?_ | refine brN ?_ | refine lenS rfl rfl rfl rfl hx rfl rfl ?_
  refine callA hp [] ?_
  repeat first | refine EffG.mk (obA ?_) | refine obA ?_ | refine chkA ?_
  refine callA h0 [0, 3, 1, 2] ?_
  repeat first | refine EffG.mk (obA ?_) | refine obA ?_ | refine chkA ?_
  refine loopG Nat (fun i => [(0, slD 0 k x), (3, .i64 32), (10, .nilslice), (11, .u32 1#32), (12, .ptr 2 []), (13, .ptr 3 []), (54, .i64 ((n : Int) - 1)), (55, .i64 i)]) (fun i => [(0, some ⟨.row .cell, .u8s ks, false⟩), (1, some ⟨.row .cell, .u8s ss, false⟩),
    (2, some ⟨t32, .u8s (L i), true⟩), (3, some ⟨t32, .u8s (A i), true⟩), gR]) 4 (fun i => i ≤ n - 1) (fun i => n - 1 - i) 0 [0, 1, 4, 5] (Nat.zero_le _) (viewA (h3 := ?_)) ?_
  · rw [ha0]
    exact ⟨⟨_, rfl, rfl, rfl, id⟩, ⟨_, rfl, rfl, rfl, id⟩, ⟨_, rfl, rfl, rfl, id⟩, ⟨_, rfl, rfl, rfl, id⟩, ⟨_, rfl, rfl, rfl, id⟩, trivial⟩
  intro i hi
  have hli := hll i
  have hai := hal i
  repeat first | refine EffG.mk (obA ?_) | refine obA ?_ | refine chkA ?_
  refine Br.split (fun h => ?_) (fun h => ?_)
  · have hi : i < n - 1 := by have := of_decide_eq_true h; omega
    have hl2 := hll (i + 1)
    repeat first | refine EffG.mk (obA ?_) | refine obA ?_ | refine chkA ?_
    refine callA (h9 i) [0, 4, 2] ?_
    repeat first | refine EffG.mk (obA ?_) | refine obA ?_ | refine chkA ?_
    refine loopG Nat (fun j => [(0, slD 0 k x), (3, .i64 32), (10, .nilslice), (11, .u32 1#32), (12, .ptr 2 []), (13, .ptr 3 []), (54, .i64 ((n : Int) - 1)), (55, .i64 i), (61, .u8s (L (i + 1))), (62, .i64 j)]) (fun j => [(0, some ⟨.row .cell, .u8s ks, false⟩), (1, some ⟨.row .cell, .u8s ss, false⟩),
      (2, some ⟨t32, .u8s (L (i + 1)), true⟩), (3, some ⟨t32, .u8s (xoI (A i) (L (i + 1)) j), true⟩), gR]) 4 (fun j => j ≤ 32) (fun j => 32 - j) 0 [0, 1, 2, 3] (Nat.zero_le _) viewA ?_
    intro j hj
    have hxj := xoI_length (A i) (L (i + 1)) j
    rw [hai] at hxj
    repeat first | refine EffG.mk (obA ?_) | refine obA ?_ | refine chkA ?_
    refine Br.split (fun h => ?_) (fun h => ?_)
    · have hj : j < 32 := by have := of_decide_eq_true h; omega
      repeat first | refine EffG.mk (obA ?_) | refine obA ?_ | refine chkA ?_
      refine nextA (j + 1) [0, 1, 2, 3] viewA
    · obtain rfl : j = 32 := by have := of_decide_eq_false h; omega
      rw [← ha1 i]
      repeat first | refine EffG.mk (obA ?_) | refine obA ?_ | refine chkA ?_
      refine nextA (i + 1) [0, 1, 2, 3] viewA
  · obtain rfl : i = n - 1 := by have := of_decide_eq_false h; omega
    repeat first | refine EffG.mk (obA ?_) | refine obA ?_ | refine chkA ?_
    refine ⟨1, ?_⟩
    repeat first | refine EffG.mk (obA ?_) | refine obA ?_ | refine chkA ?_ | refine brY ?_ | refine brN ?_
    have e : List.take 32 (A (n - 1)) = A (n - 1) := List.take_of_length_le (by omega)
    refine retA [0, 1, 4] (h3 := ?_)
    (repeat' (first | exact trivial | refine And.intro ⟨_, rfl, rfl, ?_, id⟩ ?_ | refine And.intro ⟨_, rfl, rfl, ?_, fun _ => rfl⟩ ?_)) <;> first | rfl | exact congrArg D.u8s e

/-- too long, or as many turns as there may not be -/
theorem derive_arg_ac (ks ss : List (BitVec 8)) (k : Nat) (n : Int) (x : Option Nat) (ha : ks.length = k) (hx : x = none → k = 0) (hk : k ≤ 512) (hs : ss.length = 16) (hn : n < 1 ∨ 4096 < n) :
    AC Tryd.prog 20 [slD 0 k x, .slice 1 [] 0 16 (some 16), .i64 n, .i64 32] 2 [(0, some ⟨.row .cell, .u8s ks, false⟩), (1, some ⟨.row .cell, .u8s ss, false⟩)]
      ⟨.tup [.nilslice, .i64 2], [], []⟩ := by
  by_cases h1 : n < 1
  · refine acA tab mix Tryd.func20 {} ?_
    repeat first | refine EffG.mk (obA ?_) | refine obA ?_ | refine chkA ?_ | refine brY ?_ | refine brN ?_ | refine lenS rfl rfl rfl rfl hx rfl rfl ?_
    refine retA [0, 1]
  · have h2 : 4096 < n := by omega
    refine acA tab mix Tryd.func20 {} ?_
    repeat first | refine EffG.mk (obA ?_) | refine obA ?_ | refine chkA ?_ | refine brY ?_ | refine brN ?_ | refine lenS rfl rfl rfl rfl hx rfl rfl ?_
    refine retA [0, 1]
theorem derive_long_ac (ks ss : List (BitVec 8)) (k : Nat) (n : Int) (x : Option Nat) (ha : ks.length = k) (hx : x = none → k = 0) (hk : 512 < k) (hs : ss.length = 16) :
    AC Tryd.prog 20 [slD 0 k x, .slice 1 [] 0 16 (some 16), .i64 n, .i64 32] 2 [(0, some ⟨.row .cell, .u8s ks, false⟩), (1, some ⟨.row .cell, .u8s ss, false⟩)]
      ⟨.tup [.nilslice, .i64 5], [], []⟩ := by
  refine acA tab mix Tryd.func20 {} ?_
  repeat first | refine EffG.mk (obA ?_) | refine obA ?_ | refine chkA ?_ | refine brY ?_ | refine brN ?_ | refine lenS rfl rfl rfl rfl hx rfl rfl ?_
  refine retA [0, 1]

/-- a slot's key -/
theorem skey_ac (ks salt : List (BitVec 8)) (k n : Nat) (x : Option Nat) (ha : ks.length = k) (hx : x = none → k = 0) (hk : k ≤ 512) (hs : salt.length = 16) (h1 : 1 ≤ n) (h2 : n ≤ 4096) :
    AC Tryd.prog 46 [slD 0 k x, .u8s salt, .i64 n] 1 [(0, some ⟨.row .cell, .u8s ks, false⟩), gR] ⟨.tup [.u8s (dkF ks salt n), .i64 0], [], []⟩ := by
  have h := derive_ac ks salt k n x ha hx hk hs h1 h2
  have hl := dkF_length ks salt n
  generalize dkF ks salt n = y at h hl ⊢
  have h : AC Tryd.prog 20 [slD 0 k x, .slice 1 [] 0 16 (some 16), .i64 n, .i64 32] 2 [(1, some ⟨.arr 16 .cell, .u8s salt, false⟩), (0, some ⟨.row .cell, .u8s ks, false⟩), gR]
      ⟨.tup [.slice 2 [] 0 32 none, .i64 0], [], [(.row .cell, .u8s y)]⟩ := by
    have := h.arr 1 16
    cases x <;> exact this
  refine acA tab mix Tryd.func46 {} ?_
  repeat first | refine EffG.mk (obA ?_) | refine obA ?_ | refine chkA ?_
  refine callA h [0, 1] ?_
  repeat first | refine EffG.mk (obA ?_) | refine obA ?_ | refine chkA ?_ | refine brY ?_ | refine brN ?_
  have e : List.take 32 y = y := List.take_of_length_le (by omega)
  refine retA [0] (h1 := ?_)
  show retIs (.tup [.u8s y, .i64 0]) [.u8s (List.take 32 y), .i64 0]
  rw [e]
  first | rfl | exact ⟨rfl, rfl⟩
theorem skey_bad_ac (ks salt : List (BitVec 8)) (k : Nat) (n : Int) (x : Option Nat) (ha : ks.length = k) (hx : x = none → k = 0) (hs : salt.length = 16) (hb : 512 < k ∨ n < 1 ∨ 4096 < n) :
    AC Tryd.prog 46 [slD 0 k x, .u8s salt, .i64 n] 1 [(0, some ⟨.row .cell, .u8s ks, false⟩)] ⟨.tup [.u8s (List.replicate 32 0), .i64 (if 512 < k then 5 else 2)], [], []⟩ := by
  by_cases h5 : 512 < k
  · rw [if_pos h5]
    have h := derive_long_ac ks salt k n x ha hx h5 hs
    have h : AC Tryd.prog 20 [slD 0 k x, .slice 1 [] 0 16 (some 16), .i64 n, .i64 32] 2 [(1, some ⟨.arr 16 .cell, .u8s salt, false⟩), (0, some ⟨.row .cell, .u8s ks, false⟩)]
        ⟨.tup [.nilslice, .i64 5], [], []⟩ := by
      have := h.arr 1 16
      cases x <;> exact this
    refine acA tab mix Tryd.func46 {} ?_
    repeat first | refine EffG.mk (obA ?_) | refine obA ?_ | refine chkA ?_
    refine callA h [0, 1] ?_
    repeat first | refine EffG.mk (obA ?_) | refine obA ?_ | refine chkA ?_ | refine brY ?_ | refine brN ?_
    refine retA [0]
  · rw [if_neg h5]
    have h := derive_arg_ac ks salt k n x ha hx (by omega) hs (by omega)
    have h : AC Tryd.prog 20 [slD 0 k x, .slice 1 [] 0 16 (some 16), .i64 n, .i64 32] 2 [(1, some ⟨.arr 16 .cell, .u8s salt, false⟩), (0, some ⟨.row .cell, .u8s ks, false⟩)]
        ⟨.tup [.nilslice, .i64 2], [], []⟩ := by
      have := h.arr 1 16
      cases x <;> exact this
    refine acA tab mix Tryd.func46 {} ?_
    repeat first | refine EffG.mk (obA ?_) | refine obA ?_ | refine chkA ?_
    refine callA h [0, 1] ?_
    repeat first | refine EffG.mk (obA ?_) | refine obA ?_ | refine chkA ?_ | refine brY ?_ | refine brN ?_
    refine retA [0]
end Go.Proofs.YtodkhgofmgaafaaDoor.Av

namespace Go.Proofs.YtodkhgofmgaafaaDoor.Av
open Go
set_option linter.all false
set_option maxRecDepth 3000

def xrI (l : List (BitVec 8)) (o : Nat) (e : List (BitVec 8)) : Nat → List (BitVec 8)
  | 0 => l
  | i + 1 => (xrI l o e i).set (o + i) ((xrI l o e i).getD (o + i) 0 ^^^ e.getD i 0)
theorem xrI_length (l : List (BitVec 8)) (o : Nat) (e : List (BitVec 8)) : ∀ i, (xrI l o e i).length = l.length
  | 0 => rfl
  | i + 1 => by rw [xrI, List.length_set, xrI_length l o e i]
def blkN (n : BitVec 8) : List (BitVec 8) := [0, 0, 0, 0, 0, 0, 0, 0, 0, 0, 0, 0, 0, 0, 0, n]
instance (ks : List (List (BitVec 8))) : Pure (keysD ks) := ⟨fun s => ren_keysD s ks⟩
theorem over1_ac (l : List (BitVec 8)) (ks : List (List (BitVec 8))) (n : BitVec 8) (o : Nat) (c : Option Nat) (hl : l.length = 32) (ho : o ≤ 16) (h1 : ks.length = 15) (h2 : ∀ k ∈ ks, k.length = 16) :
    AC Tryd.prog 124 [.u8 n, .slice 0 [] o 16 c, .ptr 1 []] 3 [(0, some ⟨t32, .u8s l, true⟩), (1, some ⟨.cell, .ptr 2 [], true⟩), (2, some ⟨tC, keysD ks, true⟩)]
      ⟨.tup [], [(0, some (.u8s (xrI l o (encI ks (blkN n) 14) 16)))], []⟩ := by
  have he := encrypt_ac ks (blkN n) rfl h1 h2
  have hel := encI_length ks (blkN n) rfl 14
  generalize encI ks (blkN n) 14 = e at he hel ⊢
  refine acA tab mix Tryd.func124 {} ?_
  repeat first | refine EffG.mk (obA ?_) | refine obA ?_ | refine chkA ?_
  refine callA he [2] ?_
  repeat first | refine EffG.mk (obA ?_) | refine obA ?_ | refine chkA ?_
  refine loopG Nat (fun i => [(1, .slice 0 [] o 16 c), (10, .u8s e), (11, .i64 i)]) (fun i => [(0, some ⟨t32, .u8s (xrI l o e i), true⟩), (1, some ⟨.cell, .ptr 2 [], true⟩), (2, some ⟨tC, keysD ks, true⟩)]) 3 (fun i => i ≤ 16) (fun i => 16 - i) 0 [0, 1, 2] (Nat.zero_le _) viewA ?_
  intro i hi
  have hx := xrI_length l o e i
  rw [hl] at hx
  repeat first | refine EffG.mk (obA ?_) | refine obA ?_ | refine chkA ?_
  refine Br.split (fun h => ?_) (fun h => ?_)
  · have hi : i < 16 := by have := of_decide_eq_true h; omega
    repeat first | refine EffG.mk (obA ?_) | refine obA ?_ | refine chkA ?_
    refine nextA (i + 1) [0, 1, 2] viewA
  · obtain rfl : i = 16 := by have := of_decide_eq_false h; omega
    repeat first | refine EffG.mk (obA ?_) | refine obA ?_ | refine chkA ?_
    refine retA [0, 1, 2]

def wrapS : List (BitVec 8) := [119, 114, 97, 112]
def checkS : List (BitVec 8) := [99, 104, 101, 99, 107]
def maskF (by_ k : List (BitVec 8)) : List (BitVec 8) := xrI (xrI k 0 (encI (schedF (labF by_ wrapS)) (blkN 0) 14) 16) 16 (encI (schedF (labF by_ wrapS)) (blkN 1) 14) 16
theorem maskF_length (b k : List (BitVec 8)) : (maskF b k).length = k.length := by rw [maskF, xrI_length, xrI_length]
theorem masked_ac (b k : List (BitVec 8)) (hb : b.length = 32) (hk : k.length = 32) : AC Tryd.prog 91 [.u8s b, .u8s k] 0 [gR] ⟨.u8s (maskF b k), [], []⟩ := by
  have e : maskF b k = xrI (xrI k 0 (encI (schedF (labF b wrapS)) (blkN 0) 14) 16) 16 (encI (schedF (labF b wrapS)) (blkN 1) 14) 16 := rfl
  have hl := label_ac b wrapS hb (by decide) (by decide)
  have hll := labF_length b wrapS
  generalize labF b wrapS = x at e hl hll
  have hn := new_ac x hll
  have h1 := schedF_length x
  have h2 := schedF_lens x hll
  generalize schedF x = ks at e hn h1 h2
  have ho := fun l n o c hl ho => over1_ac l ks n o c hl ho h1 h2
  have hx := xrI_length k 0 (encI ks (blkN 0) 14) 16
  have hy := maskF_length b k
  generalize maskF b k = y at e hy ⊢
  refine acA tab mix Tryd.func91 {} ?_
  repeat first | refine EffG.mk (obA ?_) | refine obA ?_ | refine chkA ?_
  refine callA hl [] ?_
  repeat first | refine EffG.mk (obA ?_) | refine obA ?_ | refine chkA ?_
  refine callA hn [] ?_
  repeat first | refine EffG.mk (obA ?_) | refine obA ?_ | refine chkA ?_
  refine callA (ho k 0 0 (some 32) hk (by decide)) [1, 4, 3] ?_
  repeat first | refine EffG.mk (obA ?_) | refine obA ?_ | refine chkA ?_
  refine callA (ho _ 1 16 (some 16) (hx.trans hk) (by decide)) [1, 4, 3] ?_
  rw [← e]
  repeat first | refine EffG.mk (obA ?_) | refine obA ?_ | refine chkA ?_
  refine retA []
def chkF (by_ s : List (BitVec 8)) : List (BitVec 8) := hmF (labF by_ checkS) s
theorem chkF_length (b s : List (BitVec 8)) : (chkF b s).length = 32 := hmF_length _ _
theorem check_ac (b s : List (BitVec 8)) (hb : b.length = 32) (hs : s.length = 32) : AC Tryd.prog 89 [.u8s b, .u8s s] 0 [gR] ⟨.u8s (chkF b s), [], []⟩ := by
  have e : chkF b s = hmF (labF b checkS) s := rfl
  have hl := label_ac b checkS hb (by decide) (by decide)
  have hll := labF_length b checkS
  generalize labF b checkS = x at e hl hll
  have ho := hof1_ac x s 0 32 0 32 (some 32) (some 32) (by omega) (by omega) (by decide) (by decide) (by decide)
  rw [List.drop_zero, List.take_of_length_le (by omega), List.drop_zero, List.take_of_length_le (by omega), ← e] at ho
  have hy := chkF_length b s
  generalize chkF b s = y at ho hy ⊢
  refine acA tab mix Tryd.func89 {} ?_
  repeat first | refine EffG.mk (obA ?_) | refine obA ?_ | refine chkA ?_
  refine callA hl [] ?_
  repeat first | refine EffG.mk (obA ?_) | refine obA ?_ | refine chkA ?_
  refine callA ((ho.arr 0 32).arr 2 32) [3, 4, 1] ?_
  repeat first | refine EffG.mk (obA ?_) | refine obA ?_ | refine chkA ?_
  refine retA []
theorem wseal_ac (b k : List (BitVec 8)) (hb : b.length = 32) (hk : k.length = 32) : AC Tryd.prog 97 [.u8s b, .u8s k] 0 [gR] ⟨.tup [.u8s (maskF b k), .u8s (chkF b (maskF b k))], [], []⟩ := by
  have hm := masked_ac b k hb hk
  have hy := maskF_length b k
  rw [hk] at hy
  generalize maskF b k = y at hm hy ⊢
  have hc := check_ac b y hb hy
  have hz := chkF_length b y
  generalize chkF b y = z at hc hz ⊢
  refine acA tab mix Tryd.func97 {} ?_
  repeat first | refine EffG.mk (obA ?_) | refine obA ?_ | refine chkA ?_
  refine callA hm [] ?_
  repeat first | refine EffG.mk (obA ?_) | refine obA ?_ | refine chkA ?_
  refine callA hc [] ?_
  repeat first | refine EffG.mk (obA ?_) | refine obA ?_ | refine chkA ?_
  refine retA []
theorem open_ac (b s c : List (BitVec 8)) (hb : b.length = 32) (hs : s.length = 32) (hc : c.length = 32) :
    AC Tryd.prog 47 [.u8s b, .u8s s, .u8s c] 0 [gR] ⟨.tup [.u8s (if chkF b s = c then maskF b s else List.replicate 32 0), .i64 (if chkF b s = c then 0 else 30)], [], []⟩ := by
  have hm := masked_ac b s hb hs
  have hy := maskF_length b s
  rw [hs] at hy
  generalize maskF b s = y at hm hy ⊢
  have hk := check_ac b s hb hs
  have hz := chkF_length b s
  generalize chkF b s = z at hk hz ⊢
  have hq := equal_ac z c 32 (some 32) (some 32) hz hc (by decide)
  refine acA tab mix Tryd.func47 {} ?_
  repeat first | refine EffG.mk (obA ?_) | refine obA ?_ | refine chkA ?_
  refine callA hk [] ?_
  repeat first | refine EffG.mk (obA ?_) | refine obA ?_ | refine chkA ?_
  refine callA ((hq.arr 0 32).arr 1 32) [4, 2] ?_
  repeat first | refine EffG.mk (obA ?_) | refine obA ?_ | refine chkA ?_
  refine Br.split (fun h => ?_) (fun h => ?_)
  · have h : ¬ z = c := by simpa using h
    rw [if_neg h, if_neg h]
    repeat first | refine EffG.mk (obA ?_) | refine obA ?_ | refine chkA ?_
    refine retA []
  · have h : z = c := by simpa using h
    rw [if_pos h, if_pos h]
    repeat first | refine EffG.mk (obA ?_) | refine obA ?_ | refine chkA ?_
    refine callA hm [] ?_
    repeat first | refine EffG.mk (obA ?_) | refine obA ?_ | refine chkA ?_
    refine retA []
end Go.Proofs.YtodkhgofmgaafaaDoor.Av

namespace Go.Proofs.YtodkhgofmgaafaaDoor.Av
open Go
set_option linter.all false
set_option maxRecDepth 3000

/-! key slots -/
structure Slot where
  used : Bool
  turns : BitVec 16
  salt : List (BitVec 8)
  sealed : List (BitVec 8)
  check : List (BitVec 8)
abbrev slotD (s : Slot) : D := .node [.bool s.used, .u16 s.turns, .u8s s.salt, .u8s s.sealed, .u8s s.check]
abbrev tSlot : Ty := .st [.cell, .cell, .arr 16 .cell, .arr 32 .cell, .arr 32 .cell]
abbrev tTab : Ty := .arr 8 tSlot
structure Slot.ok (s : Slot) : Prop where
  salt : s.salt.length = 16
  sealed : s.sealed.length = 32
  check : s.check.length = 32
def slot0 : Slot := ⟨false, 0, List.replicate 16 0, List.replicate 32 0, List.replicate 32 0⟩
theorem slot0_ok : slot0.ok := ⟨rfl, rfl, rfl⟩
structure TabS (l : List Slot) : Prop where
  len : l.length = 8
  ok : ∀ s ∈ l, s.ok
theorem TabS.at {l : List Slot} (h : TabS l) {i : Nat} (hi : i < 8) : (l.getD i slot0).ok := h.ok _ (getD_mem (by rw [h.len]; exact hi))
theorem slot_ty {s : Slot} (h : s.ok) : hasTy tSlot (slotD s) := ⟨rfl, rfl, h.salt, h.sealed, h.check, trivial⟩
abbrev tabD (l : List Slot) : D := .node (l.map slotD)
theorem slots_ty : ∀ {l : List Slot}, (∀ s ∈ l, s.ok) → AllD (hasTy tSlot) (l.map slotD)
  | [], _ => trivial
  | s :: l, h => ⟨slot_ty (h s (by simp)), slots_ty fun x hx => h x (by simp [hx])⟩
theorem TabS.ty {l : List Slot} (h : TabS l) : hasTy tTab (tabD l) := ⟨by rw [List.length_map, h.len], slots_ty h.ok⟩
theorem ren_slots (s : Nat → Nat) : ∀ l : List Slot, D.rens s (l.map slotD) = l.map slotD
  | [] => rfl
  | a :: l => congrArg (slotD a :: ·) (ren_slots s l)
instance (l : List Slot) : Pure (tabD l) := ⟨fun s => congrArg D.node (ren_slots s l)⟩
instance (s : Slot) : Pure (slotD s) := ⟨fun _ => rfl⟩
theorem nthD_slots : ∀ {l : List Slot} {i : Nat}, i < l.length → nthD (l.map slotD) i = slotD (l.getD i slot0)
  | [], _, h => absurd h (Nat.not_lt_zero _)
  | a :: l, 0, _ => rfl
  | a :: l, i + 1, h => by
    have := nthD_slots (l := l) (i := i) (by simpa using h)
    simpa [nthD, nth] using this
theorem drop_slots {l : List Slot} {i : Nat} (h : i < l.length) : l.drop i = l.getD i slot0 :: l.drop (i + 1) := by
  rw [List.getD_eq_getElem?_getD, List.getElem?_eq_getElem h, Option.getD_some, List.drop_eq_getElem_cons h]

/-- does a passphrase open a slot? -/
def hitB (ks : List (BitVec 8)) (s : Slot) : Bool := s.used && decide (1 ≤ s.turns.toNat) && decide (s.turns.toNat ≤ 4096) && decide (chkF (dkF ks s.salt s.turns.toNat) s.sealed = s.check)
theorem hit_yes {ks sa se ch : List (BitVec 8)} {t : BitVec 16} (h1 : 1 ≤ t.toNat) (h2 : t.toNat ≤ 4096) : hitB ks ⟨true, t, sa, se, ch⟩ = decide (chkF (dkF ks sa t.toNat) se = ch) := by
  unfold hitB
  simp only [decide_eq_true h1, decide_eq_true h2, Bool.true_and]
theorem hit_no {ks sa se ch : List (BitVec 8)} {t : BitVec 16} (h : ¬ (1 ≤ t.toNat ∧ t.toNat ≤ 4096)) : hitB ks ⟨true, t, sa, se, ch⟩ = false := by
  unfold hitB
  by_cases h1 : 1 ≤ t.toNat
  · simp only [decide_eq_true h1, decide_eq_false (show ¬ t.toNat ≤ 4096 by omega), Bool.and_false, Bool.false_and]
  · simp only [decide_eq_false h1, Bool.and_false, Bool.false_and]
theorem hit_free {ks sa se ch : List (BitVec 8)} {t : BitVec 16} : hitB ks ⟨false, t, sa, se, ch⟩ = false := by
  unfold hitB
  simp only [Bool.false_and]
def opR (ks : List (BitVec 8)) : List Slot → Nat → List (BitVec 8) × Nat × Int
  | [], _ => (List.replicate 32 0, 0, 30)
  | s :: r, i => if hitB ks s then (maskF (dkF ks s.salt s.turns.toNat) s.sealed, i, 0) else opR ks r (i + 1)

set_option maxHeartbeats 1000000 in
theorem sopen_ac (ks : List (BitVec 8)) (l : List Slot) (k : Nat) (x : Option Nat) (ha : ks.length = k) (hx : x = none → k = 0) (hk : k ≤ 512) (hl : TabS l) :
    AC Tryd.prog 15 [tabD l, slD 0 k x] 1 [(0, some ⟨.row .cell, .u8s ks, false⟩), gR] ⟨.tup [.u8s (opR ks l 0).1, .i64 (opR ks l 0).2.1, .i64 (opR ks l 0).2.2], [], []⟩ := by
  have hT := hl.ty
  have hlen := hl.len
  generalize hR : opR ks l 0 = R
  refine acA tab mix Tryd.func15 {} ?_
  refine EffG.mk (And.intro hT ?_)
  repeat first | refine EffG.mk (obA ?_) | refine obA ?_ | refine chkA ?_ | refine brY ?_ | refine brN ?_ | refine lenS rfl rfl rfl rfl hx rfl rfl ?_
  refine loopG Nat (fun i => [(1, slD 0 k x), (4, .ptr 1 []), (17, tabD l), (18, .i64 i)]) (fun i => [(0, some ⟨.row .cell, .u8s ks, false⟩), (1, some ⟨t32, .u8s (List.replicate 32 0), true⟩), gR]) 2
    (fun i => i ≤ 8 ∧ opR ks (l.drop i) i = R) (fun i => 8 - i) 0 [0, 2] ⟨Nat.zero_le _, hR⟩ viewA ?_
  intro i hI
  obtain ⟨hi, hR⟩ := hI
  repeat first | refine EffG.mk (obA ?_) | refine obA ?_ | refine chkA ?_
  refine Br.split (fun h => ?_) (fun h => ?_)
  · have hi : i < 8 := by have := of_decide_eq_true h; omega
    have hs := hl.at hi
    rw [drop_slots (by omega)] at hR
    have hn := nthD_slots (l := l) (i := i) (by omega)
    obtain ⟨⟨u, t, sa, se, ch⟩, he⟩ : ∃ s, l.getD i slot0 = s := ⟨_, rfl⟩
    rw [he] at hs hR hn
    obtain ⟨hsa, hse, hch⟩ := hs
    have hsa : sa.length = 16 := hsa
    have hse : se.length = 32 := hse
    have hch : ch.length = 32 := hch
    have hn : nthD (l.map slotD) (Int.toNat (i : Int)) = slotD ⟨u, t, sa, se, ch⟩ := hn
    repeat first | refine EffG.mk (obA ?_) | refine obA ?_ | refine chkA ?_
    refine EffG.mk (And.intro ⟨⟨⟨by omega, by omega⟩, ⟨by rw [List.length_map]; omega, trivial⟩⟩, hT⟩ ?_)
    rw [hn]
    cases u with
    | false =>
      rw [opR, hit_free, if_neg (by decide)] at hR
      repeat first | refine EffG.mk (obA ?_) | refine obA ?_ | refine chkA ?_ | refine brY ?_ | refine brN ?_
      refine nextA (i + 1) [0, 1] viewA (h1 := ⟨by omega, hR⟩)
    | true =>
      by_cases ht : 1 ≤ t.toNat ∧ t.toNat ≤ 4096
      · have hk1 := skey_ac ks sa k t.toNat x ha hx hk hsa ht.1 ht.2
        have hyl := dkF_length ks sa t.toNat
        have hb := hit_yes (ks := ks) (sa := sa) (se := se) (ch := ch) ht.1 ht.2
        have hop := open_ac (dkF ks sa t.toNat) se ch hyl hse hch
        have hR : (if decide (chkF (dkF ks sa t.toNat) se = ch) = true then (maskF (dkF ks sa t.toNat) se, i, 0) else opR ks (l.drop (i + 1)) (i + 1)) = R := by
          rw [opR, hb] at hR; exact hR
        have hml := maskF_length (dkF ks sa t.toNat) se
        generalize dkF ks sa t.toNat = y at hk1 hyl hop hR hml
        generalize maskF y se = z at hop hR hml
        generalize chkF y se = c9 at hop hR
        by_cases hc : c9 = ch
        · rw [if_pos hc, if_pos hc] at hop
          rw [if_pos (decide_eq_true hc)] at hR
          subst hR
          repeat first | refine EffG.mk (obA ?_) | refine obA ?_ | refine chkA ?_ | refine brY ?_ | refine brN ?_
          refine callA hk1 [0] ?_
          repeat first | refine EffG.mk (obA ?_) | refine obA ?_ | refine chkA ?_ | refine brY ?_ | refine brN ?_
          refine callA hop [] ?_
          repeat first | refine EffG.mk (obA ?_) | refine obA ?_ | refine chkA ?_ | refine brY ?_ | refine brN ?_
          refine retA [0]
        · rw [if_neg hc, if_neg hc] at hop
          rw [if_neg (by rw [decide_eq_false hc]; decide)] at hR
          repeat first | refine EffG.mk (obA ?_) | refine obA ?_ | refine chkA ?_ | refine brY ?_ | refine brN ?_
          refine callA hk1 [0] ?_
          repeat first | refine EffG.mk (obA ?_) | refine obA ?_ | refine chkA ?_ | refine brY ?_ | refine brN ?_
          refine callA hop [] ?_
          repeat first | refine EffG.mk (obA ?_) | refine obA ?_ | refine chkA ?_ | refine brY ?_ | refine brN ?_
          refine nextA (i + 1) [0, 1] viewA (h1 := ⟨by omega, hR⟩)
      · have hk1 := skey_bad_ac ks sa k t.toNat x ha hx hsa (by omega)
        rw [if_neg (by omega)] at hk1
        have hb := hit_no (ks := ks) (sa := sa) (se := se) (ch := ch) ht
        have hR : opR ks (l.drop (i + 1)) (i + 1) = R := by
          rw [opR, hb, if_neg (by decide)] at hR; exact hR
        repeat first | refine EffG.mk (obA ?_) | refine obA ?_ | refine chkA ?_ | refine brY ?_ | refine brN ?_
        refine callA hk1 [0] ?_
        repeat first | refine EffG.mk (obA ?_) | refine obA ?_ | refine chkA ?_ | refine brY ?_ | refine brN ?_
        refine nextA (i + 1) [0, 1] viewA (h1 := ⟨by omega, hR⟩)
  · obtain rfl : i = 8 := by have := of_decide_eq_false h; omega
    rw [List.drop_of_length_le (by omega)] at hR
    subst hR
    repeat first | refine EffG.mk (obA ?_) | refine obA ?_ | refine chkA ?_
    refine retA [0]
end Go.Proofs.YtodkhgofmgaafaaDoor.Av

namespace Go.Proofs.YtodkhgofmgaafaaDoor.Av
open Go
set_option linter.all false
set_option maxRecDepth 3000

theorem sopen_long_ac (ks : List (BitVec 8)) (l : List Slot) (k : Nat) (x : Option Nat) (ha : ks.length = k) (hx : x = none → k = 0) (hk : 512 < k) (hl : TabS l) :
    AC Tryd.prog 15 [tabD l, slD 0 k x] 1 [(0, some ⟨.row .cell, .u8s ks, false⟩)] ⟨.tup [.u8s (List.replicate 32 0), .i64 0, .i64 5], [], []⟩ := by
  have hT := hl.ty
  refine acA tab mix Tryd.func15 {} ?_
  refine EffG.mk (And.intro hT ?_)
  repeat first | refine EffG.mk (obA ?_) | refine obA ?_ | refine chkA ?_ | refine brY ?_ | refine brN ?_ | refine lenS rfl rfl rfl rfl hx rfl rfl ?_
  refine retA [0]
theorem opR_cons (ks : List (BitVec 8)) (s : Slot) (r : List Slot) (i : Nat) : opR ks (s :: r) i = bif hitB ks s then (maskF (dkF ks s.salt s.turns.toNat) s.sealed, i, 0) else opR ks r (i + 1) := by
  rw [opR]
  generalize maskF (dkF ks s.salt s.turns.toNat) s.sealed = z
  generalize hitB ks s = b
  cases b <;> rfl
theorem opR_err (ks : List (BitVec 8)) : ∀ (l : List Slot) (i : Nat), (opR ks l i).2.2 = 0 ∨ (opR ks l i).2.2 = 30
  | [], _ => .inr rfl
  | s :: r, i => by
    have ih := opR_err ks r (i + 1)
    rw [opR_cons]
    generalize maskF (dkF ks s.salt s.turns.toNat) s.sealed = z
    generalize hitB ks s = b
    cases b
    · exact ih
    · exact .inl rfl
theorem opR_length (ks : List (BitVec 8)) : ∀ (l : List Slot) (i : Nat), (∀ s ∈ l, s.ok) → (opR ks l i).1.length = 32
  | [], _, _ => rfl
  | s :: r, i, h => by
    have ih := opR_length ks r (i + 1) fun x hx => h x (by simp [hx])
    have hz := (maskF_length (dkF ks s.salt s.turns.toNat) s.sealed).trans (h s (by simp)).sealed
    rw [opR_cons]
    generalize maskF (dkF ks s.salt s.turns.toNat) s.sealed = z at hz ⊢
    generalize hitB ks s = b
    cases b
    · exact ih
    · exact hz

theorem ren_tab (s : Nat → Nat) (l : List Slot) : (tabD l).ren s = tabD l := congrArg D.node (ren_slots s l)

/-! a new slot -/
def sealS (ks salt : List (BitVec 8)) (n : Nat) (master : List (BitVec 8)) : Slot := ⟨true, BitVec.ofInt 16 n, salt, maskF (dkF ks salt n) master, chkF (dkF ks salt n) (maskF (dkF ks salt n) master)⟩
theorem sealS_ok {ks salt master : List (BitVec 8)} {n : Nat} (hs : salt.length = 16) (hm : master.length = 32) : (sealS ks salt n master).ok := by
  have h1 := (maskF_length (dkF ks salt n) master).trans hm
  have h2 := chkF_length (dkF ks salt n) (maskF (dkF ks salt n) master)
  unfold sealS
  generalize chkF (dkF ks salt n) (maskF (dkF ks salt n) master) = c at *
  generalize maskF (dkF ks salt n) master = z at *
  exact ⟨hs, h1, h2⟩

theorem sseal_ac (ks : List (BitVec 8)) (l : List Slot) (salt master : List (BitVec 8)) (k n : Nat) (x : Option Nat) (ha : ks.length = k) (hx : x = none → k = 0) (hk : k ≤ 512) (hl : TabS l) (hs : salt.length = 16) (hm : master.length = 32) (h1 : 1 ≤ n) (h2 : n ≤ 4096)
    (hno : (opR ks l 0).2.2 = 30) :
    AC Tryd.prog 55 [tabD l, slD 0 k x, .u8s salt, .i64 n, .u8s master] 1 [(0, some ⟨.row .cell, .u8s ks, false⟩), gR] ⟨.tup [slotD (sealS ks salt n master), .i64 0], [], []⟩ := by
  have hT := hl.ty
  have hky := skey_ac ks salt k n x ha hx hk hs h1 h2
  have hop := sopen_ac ks l k x ha hx hk hl
  have hol := opR_length ks l 0 hl.ok
  rw [hno] at hop
  have hyl := dkF_length ks salt n
  have hse := wseal_ac (dkF ks salt n) master hyl hm
  have e : sealS ks salt n master = ⟨true, BitVec.ofInt 16 n, salt, maskF (dkF ks salt n) master, chkF (dkF ks salt n) (maskF (dkF ks salt n) master)⟩ := rfl
  rw [e]
  have hzl := (maskF_length (dkF ks salt n) master).trans hm
  have hcl := chkF_length (dkF ks salt n) (maskF (dkF ks salt n) master)
  clear e hno
  generalize chkF (dkF ks salt n) (maskF (dkF ks salt n) master) = c at *
  generalize maskF (dkF ks salt n) master = z at *
  generalize dkF ks salt n = y at *
  generalize (opR ks l 0).1 = o1 at *
  generalize (opR ks l 0).2.1 = o2 at *
  refine acA tab mix Tryd.func55 {} ?_
  refine EffG.mk (And.intro hT ?_)
  repeat first | refine EffG.mk (obA ?_) | refine obA ?_ | refine chkA ?_
  refine callA hky [0] ?_
  repeat first | refine EffG.mk (obA ?_) | refine obA ?_ | refine chkA ?_ | refine brY ?_ | refine brN ?_
  refine callA hop [0] ?_ (hargs := by simp only [D.rens, ren_slD, ren_tab]; rfl)
  repeat first | refine EffG.mk (obA ?_) | refine obA ?_ | refine chkA ?_ | refine brY ?_ | refine brN ?_
  refine callA hse [] ?_
  repeat first | refine EffG.mk (obA ?_) | refine obA ?_ | refine chkA ?_ | refine brY ?_ | refine brN ?_
  refine retA [0]
theorem sseal_bad_ac (ks : List (BitVec 8)) (l : List Slot) (salt master : List (BitVec 8)) (k : Nat) (n : Int) (x : Option Nat) (ha : ks.length = k) (hx : x = none → k = 0) (hl : TabS l) (hs : salt.length = 16) (hm : master.length = 32) (hb : 512 < k ∨ n < 1 ∨ 4096 < n) :
    AC Tryd.prog 55 [tabD l, slD 0 k x, .u8s salt, .i64 n, .u8s master] 1 [(0, some ⟨.row .cell, .u8s ks, false⟩)] ⟨.tup [slotD slot0, .i64 (if 512 < k then 5 else 2)], [], []⟩ := by
  have hT := hl.ty
  have hky := skey_bad_ac ks salt k n x ha hx hs hb
  by_cases h5 : 512 < k
  · rw [if_pos h5] at hky ⊢
    refine acA tab mix Tryd.func55 {} ?_
    refine EffG.mk (And.intro hT ?_)
    repeat first | refine EffG.mk (obA ?_) | refine obA ?_ | refine chkA ?_
    refine callA hky [0] ?_
    repeat first | refine EffG.mk (obA ?_) | refine obA ?_ | refine chkA ?_ | refine brY ?_ | refine brN ?_
    refine retA [0]
  · rw [if_neg h5] at hky ⊢
    refine acA tab mix Tryd.func55 {} ?_
    refine EffG.mk (And.intro hT ?_)
    repeat first | refine EffG.mk (obA ?_) | refine obA ?_ | refine chkA ?_
    refine callA hky [0] ?_
    repeat first | refine EffG.mk (obA ?_) | refine obA ?_ | refine chkA ?_ | refine brY ?_ | refine brN ?_
    refine retA [0]
theorem sseal_there_ac (ks : List (BitVec 8)) (l : List Slot) (salt master : List (BitVec 8)) (k n : Nat) (x : Option Nat) (ha : ks.length = k) (hx : x = none → k = 0) (hk : k ≤ 512) (hl : TabS l) (hs : salt.length = 16) (hm : master.length = 32) (h1 : 1 ≤ n) (h2 : n ≤ 4096)
    (hno : (opR ks l 0).2.2 = 0) :
    AC Tryd.prog 55 [tabD l, slD 0 k x, .u8s salt, .i64 n, .u8s master] 1 [(0, some ⟨.row .cell, .u8s ks, false⟩), gR] ⟨.tup [slotD slot0, .i64 23], [], []⟩ := by
  have hT := hl.ty
  have hky := skey_ac ks salt k n x ha hx hk hs h1 h2
  have hop := sopen_ac ks l k x ha hx hk hl
  have hol := opR_length ks l 0 hl.ok
  rw [hno] at hop
  have hyl := dkF_length ks salt n
  clear hno
  generalize dkF ks salt n = y at *
  generalize (opR ks l 0).1 = o1 at *
  generalize (opR ks l 0).2.1 = o2 at *
  refine acA tab mix Tryd.func55 {} ?_
  refine EffG.mk (And.intro hT ?_)
  repeat first | refine EffG.mk (obA ?_) | refine obA ?_ | refine chkA ?_
  refine callA hky [0] ?_
  repeat first | refine EffG.mk (obA ?_) | refine obA ?_ | refine chkA ?_ | refine brY ?_ | refine brN ?_
  refine callA hop [0] ?_ (hargs := by simp only [D.rens, ren_slD, ren_tab]; rfl)
  repeat first | refine EffG.mk (obA ?_) | refine obA ?_ | refine chkA ?_ | refine brY ?_ | refine brN ?_
  refine retA [0]
end Go.Proofs.YtodkhgofmgaafaaDoor.Av

namespace Go.Proofs.YtodkhgofmgaafaaDoor.Av
open Go
set_option linter.all false
set_option maxRecDepth 3000

theorem free1_ac (s : Slot) (h : s.ok) : AC Tryd.prog 57 [slotD s] 0 [] ⟨.bool (!s.used), [], []⟩ := by
  have hT := slot_ty h
  refine acA tab mix Tryd.func57 {} ?_
  refine EffG.mk (And.intro hT ?_)
  repeat first | refine EffG.mk (obA ?_) | refine obA ?_ | refine chkA ?_
  refine retA []
/-- the first slot that is free -/
def freeI : List Slot → Nat → Int
  | [], _ => -1
  | s :: r, i => bif s.used then freeI r (i + 1) else i
theorem getP_slot {l : List Slot} {i : Nat} (h : i < l.length) : getP (tabD l) [.idx i] = some (slotD (l.getD i slot0)) := by
  show some (nthD (l.map slotD) i) = _
  rw [nthD_slots h]
theorem indexfunc_ac (l : List Slot) (hl : TabS l) : AC Tryd.prog 56 [.slice 0 [] 0 8 (some 8), .fn 57 [] []] 1 [(0, some ⟨tTab, tabD l, false⟩)] ⟨.i64 (freeI l 0), [], []⟩ := by
  have hT := hl.ty
  have hlen := hl.len
  generalize hR : freeI l 0 = R
  refine acA tab mix Tryd.func56 {} ?_
  repeat first | refine EffG.mk (obA ?_) | refine obA ?_ | refine chkA ?_
  refine loopG Nat (fun i => [(0, .slice 0 [] 0 8 (some 8)), (1, .fn 57 [] []), (7, .i64 8), (8, .i64 i)]) (fun i => [(0, some ⟨tTab, tabD l, false⟩)]) 1
    (fun i => i ≤ 8 ∧ freeI (l.drop i) i = R) (fun i => 8 - i) 0 [0] ⟨Nat.zero_le _, hR⟩ viewA ?_
  intro i hI
  obtain ⟨hi, hR⟩ := hI
  repeat first | refine EffG.mk (obA ?_) | refine obA ?_ | refine chkA ?_
  refine Br.split (fun h => ?_) (fun h => ?_)
  · have hi : i < 8 := by have := of_decide_eq_true h; omega
    have hs := hl.at hi
    rw [drop_slots (by omega)] at hR
    have hn := nthD_slots (l := l) (i := i) (by omega)
    obtain ⟨⟨u, t, sa, se, ch⟩, he⟩ : ∃ s, l.getD i slot0 = s := ⟨_, rfl⟩
    rw [he] at hs hR hn
    have hf := free1_ac _ hs
    have hn : nthD (l.map slotD) (0 + Int.toNat (i : Int)) = slotD ⟨u, t, sa, se, ch⟩ := by rw [Nat.zero_add]; exact hn
    repeat first | refine EffG.mk (obA ?_) | refine obA ?_ | refine chkA ?_
    rw [hn]
    cases u with
    | false =>
      have hR : (i : Int) = R := hR
      repeat first | refine EffG.mk (obA ?_) | refine obA ?_ | refine chkA ?_
      refine callA hf [] ?_
      repeat first | refine EffG.mk (obA ?_) | refine obA ?_ | refine chkA ?_ | refine brY ?_ | refine brN ?_
      refine retA [0] (h1 := ?_)
      rw [← hR]; rfl
    | true =>
      have hR : freeI (l.drop (i + 1)) (i + 1) = R := hR
      repeat first | refine EffG.mk (obA ?_) | refine obA ?_ | refine chkA ?_
      refine callA hf [] ?_
      repeat first | refine EffG.mk (obA ?_) | refine obA ?_ | refine chkA ?_ | refine brY ?_ | refine brN ?_
      refine nextA (i + 1) [0] viewA (h1 := ⟨by omega, hR⟩)
  · obtain rfl : i = 8 := by have := of_decide_eq_false h; omega
    rw [List.drop_of_length_le (by omega)] at hR
    subst hR
    repeat first | refine EffG.mk (obA ?_) | refine obA ?_ | refine chkA ?_
    refine retA [0]

/-- how many are used -/
def usedN : List Slot → Nat
  | [] => 0
  | s :: r => (bif s.used then 1 else 0) + usedN r
theorem usedN_le : ∀ l : List Slot, usedN l ≤ l.length
  | [] => Nat.le_refl _
  | s :: r => by
    have := usedN_le r
    rw [usedN, List.length_cons]
    cases s.used <;> simp only [cond] <;> omega
theorem used_ac (l : List Slot) (hl : TabS l) : AC Tryd.prog 27 [tabD l] 0 [] ⟨.i64 (usedN l), [], []⟩ := by
  have hT := hl.ty
  have hlen := hl.len
  have hle := usedN_le l
  generalize hR : usedN l = R at hle
  refine acA tab mix Tryd.func27 {} ?_
  refine EffG.mk (And.intro hT ?_)
  repeat first | refine EffG.mk (obA ?_) | refine obA ?_ | refine chkA ?_
  refine loopG (Nat × Nat) (fun y => [(6, tabD l), (7, .i64 y.1), (3, .i64 y.2)]) (fun y => []) 0
    (fun y => y.1 ≤ 8 ∧ y.2 + usedN (l.drop y.1) = R) (fun y => 8 - y.1) (0, 0) [] ⟨Nat.zero_le _, (Nat.zero_add _).trans hR⟩ viewA ?_
  rintro ⟨i, n⟩ hI
  obtain ⟨hi, hR⟩ := hI
  have hi : i ≤ 8 := hi
  have hR : n + usedN (l.drop i) = R := hR
  repeat first | refine EffG.mk (obA ?_) | refine obA ?_ | refine chkA ?_
  refine Br.split (fun h => ?_) (fun h => ?_)
  · have hi : i < 8 := by have := of_decide_eq_true h; omega
    have hs := hl.at hi
    rw [drop_slots (by omega)] at hR
    have hn := nthD_slots (l := l) (i := i) (by omega)
    obtain ⟨⟨u, t, sa, se, ch⟩, he⟩ : ∃ s, l.getD i slot0 = s := ⟨_, rfl⟩
    rw [he] at hs hR hn
    obtain ⟨hsa, hse, hch⟩ := hs
    have hsa : sa.length = 16 := hsa
    have hse : se.length = 32 := hse
    have hch : ch.length = 32 := hch
    have hn : nthD (l.map slotD) (Int.toNat (i : Int)) = slotD ⟨u, t, sa, se, ch⟩ := hn
    repeat first | refine EffG.mk (obA ?_) | refine obA ?_ | refine chkA ?_
    refine EffG.mk (And.intro ⟨⟨⟨by omega, by omega⟩, ⟨by rw [List.length_map]; omega, trivial⟩⟩, hT⟩ ?_)
    rw [hn]
    cases u with
    | false =>
      have hR : n + usedN (l.drop (i + 1)) = R := by rw [usedN] at hR; simp only [cond] at hR; omega
      repeat first | refine EffG.mk (obA ?_) | refine obA ?_ | refine chkA ?_ | refine brY ?_ | refine brN ?_
      refine nextA (i + 1, n) [] viewA (h1 := ⟨by show i + 1 ≤ 8; omega, hR⟩) (h2 := by show 8 - (i + 1) < 8 - i; omega)
    | true =>
      have hR : n + 1 + usedN (l.drop (i + 1)) = R := by rw [usedN] at hR; simp only [cond] at hR; omega
      repeat first | refine EffG.mk (obA ?_) | refine obA ?_ | refine chkA ?_ | refine brY ?_ | refine brN ?_
      refine nextA (i + 1, n + 1) [] viewA (h1 := ⟨by show i + 1 ≤ 8; omega, hR⟩) (h2 := by show 8 - (i + 1) < 8 - i; omega)
  · obtain rfl : i = 8 := by have := of_decide_eq_false h; omega
    rw [List.drop_of_length_le (by omega)] at hR
    subst hR
    repeat first | refine EffG.mk (obA ?_) | refine obA ?_ | refine chkA ?_
    refine retA []
end Go.Proofs.YtodkhgofmgaafaaDoor.Av

namespace Go.Proofs.YtodkhgofmgaafaaDoor.Av
open Go
set_option linter.all false
set_option maxRecDepth 3000

theorem freeI_spec : ∀ (l : List Slot) (i : Nat), freeI l i = -1 ∨ ∃ j : Nat, freeI l i = (i + j : Nat) ∧ j < l.length
  | [], _ => .inl rfl
  | s :: r, i => by
    rw [freeI]
    cases s.used with
    | false => exact .inr ⟨0, rfl, Nat.succ_pos _⟩
    | true =>
      rcases freeI_spec r (i + 1) with h | ⟨j, h, hj⟩
      · exact .inl h
      · exact .inr ⟨j + 1, by show freeI r (i + 1) = _; rw [h]; congr 1; omega, by rw [List.length_cons]; omega⟩
def tab0 : List Slot := List.replicate 8 slot0
theorem tab0_ok : TabS tab0 := ⟨rfl, fun s h => by rw [List.eq_of_mem_replicate h]; exact slot0_ok⟩
theorem TabS.set {l : List Slot} (h : TabS l) {i : Nat} {s : Slot} (hs : s.ok) : TabS (l.set i s) := ⟨by rw [List.length_set, h.len], fun x hx => by
  rcases List.mem_or_eq_of_mem_set hx with h1 | h1
  · exact h.ok x h1
  · rw [h1]; exact hs⟩

set_option maxHeartbeats 1000000 in
theorem sadd_ac (ks : List (BitVec 8)) (l : List Slot) (salt master : List (BitVec 8)) (k n j : Nat) (x : Option Nat) (ha : ks.length = k) (hx : x = none → k = 0) (hk : k ≤ 512) (hl : TabS l) (hs : salt.length = 16) (hm : master.length = 32) (h1 : 1 ≤ n) (h2 : n ≤ 4096)
    (hno : (opR ks l 0).2.2 = 30) (hf : freeI l 0 = j) (hj : j < 8) :
    AC Tryd.prog 18 [tabD l, slD 0 k x, .u8s salt, .i64 n, .u8s master] 1 [(0, some ⟨.row .cell, .u8s ks, false⟩), gR] ⟨.tup [tabD (l.set j (sealS ks salt n master)), .i64 0], [], []⟩ := by
  have hT := hl.ty
  have hlen := hl.len
  have hse := sseal_ac ks l salt master k n x ha hx hk hl hs hm h1 h2 hno
  have hso := sealS_ok (ks := ks) (n := n) hs hm
  have hix := indexfunc_ac l hl
  rw [hf] at hix
  generalize sealS ks salt n master = s at hse hso ⊢
  have hT2 := (hl.set (i := j) hso).ty
  have hset : (l.map slotD).set j (slotD s) = (l.set j s).map slotD := List.map_set.symm
  have hT2 : hasTy tTab (.node ((l.map slotD).set j (slotD s))) := by rw [hset]; exact hT2
  obtain ⟨u, t, sa, se, ch⟩ := s
  obtain ⟨hsa, hse2, hch⟩ := hso
  have hsa : sa.length = 16 := hsa
  have hse2 : se.length = 32 := hse2
  have hch : ch.length = 32 := hch
  refine acA tab mix Tryd.func18 {} ?_
  refine EffG.mk (And.intro hT ?_)
  repeat first | refine EffG.mk (obA ?_) | refine obA ?_ | refine chkA ?_
  refine callA hse [0] ?_ (hargs := by simp only [D.rens, ren_slD, ren_tab]; rfl)
  repeat first | refine EffG.mk (obA ?_) | refine obA ?_ | refine chkA ?_ | refine brY ?_ | refine brN ?_
  refine callA hix [1] ?_
  repeat first | refine EffG.mk (obA ?_) | refine obA ?_ | refine chkA ?_ | refine brY ?_ | refine brN ?_
  refine EffG.mk (And.intro ⟨trivial, hT2⟩ ?_)
  repeat first | refine EffG.mk (obA ?_) | refine obA ?_ | refine chkA ?_ | refine brY ?_ | refine brN ?_
  refine retA [0] (h1 := ?_)
  show retIs (.tup [(tabD (l.set j ⟨u, t, sa, se, ch⟩)).ren _, .i64 0]) [.node ((l.map slotD).set j (slotD ⟨u, t, sa, se, ch⟩)), .i64 0]
  rw [ren_tab, hset]
  first | rfl | exact ⟨rfl, rfl⟩ | exact rfl
theorem sadd_full_ac (ks : List (BitVec 8)) (l : List Slot) (salt master : List (BitVec 8)) (k n : Nat) (x : Option Nat) (ha : ks.length = k) (hx : x = none → k = 0) (hk : k ≤ 512) (hl : TabS l) (hs : salt.length = 16) (hm : master.length = 32) (h1 : 1 ≤ n) (h2 : n ≤ 4096)
    (hno : (opR ks l 0).2.2 = 30) (hf : freeI l 0 = -1) :
    AC Tryd.prog 18 [tabD l, slD 0 k x, .u8s salt, .i64 n, .u8s master] 1 [(0, some ⟨.row .cell, .u8s ks, false⟩), gR] ⟨.tup [tabD tab0, .i64 32], [], []⟩ := by
  have hT := hl.ty
  have hlen := hl.len
  have hse := sseal_ac ks l salt master k n x ha hx hk hl hs hm h1 h2 hno
  have hso := sealS_ok (ks := ks) (n := n) hs hm
  have hix := indexfunc_ac l hl
  rw [hf] at hix
  generalize sealS ks salt n master = s at hse hso
  obtain ⟨u, t, sa, se, ch⟩ := s
  obtain ⟨hsa, hse2, hch⟩ := hso
  have hsa : sa.length = 16 := hsa
  have hse2 : se.length = 32 := hse2
  have hch : ch.length = 32 := hch
  refine acA tab mix Tryd.func18 {} ?_
  refine EffG.mk (And.intro hT ?_)
  repeat first | refine EffG.mk (obA ?_) | refine obA ?_ | refine chkA ?_
  refine callA hse [0] ?_ (hargs := by simp only [D.rens, ren_slD, ren_tab]; rfl)
  repeat first | refine EffG.mk (obA ?_) | refine obA ?_ | refine chkA ?_ | refine brY ?_ | refine brN ?_
  refine callA hix [1] ?_
  repeat first | refine EffG.mk (obA ?_) | refine obA ?_ | refine chkA ?_ | refine brY ?_ | refine brN ?_
  refine retA [0]
theorem sadd_bad_ac (ks : List (BitVec 8)) (l : List Slot) (salt master : List (BitVec 8)) (k : Nat) (n : Int) (x : Option Nat) (ha : ks.length = k) (hx : x = none → k = 0) (hl : TabS l) (hs : salt.length = 16) (hm : master.length = 32) (hb : 512 < k ∨ n < 1 ∨ 4096 < n) :
    AC Tryd.prog 18 [tabD l, slD 0 k x, .u8s salt, .i64 n, .u8s master] 1 [(0, some ⟨.row .cell, .u8s ks, false⟩)] ⟨.tup [tabD tab0, .i64 (if 512 < k then 5 else 2)], [], []⟩ := by
  have hT := hl.ty
  have hse := sseal_bad_ac ks l salt master k n x ha hx hl hs hm hb
  have hso := slot0_ok
  generalize slot0 = s0 at hse hso
  obtain ⟨u, t, sa, se, ch⟩ := s0
  obtain ⟨hsa, hse2, hch⟩ := hso
  have hsa : sa.length = 16 := hsa
  have hse2 : se.length = 32 := hse2
  have hch : ch.length = 32 := hch
  by_cases h5 : 512 < k
  · rw [if_pos h5] at hse ⊢
    refine acA tab mix Tryd.func18 {} ?_
    refine EffG.mk (And.intro hT ?_)
    repeat first | refine EffG.mk (obA ?_) | refine obA ?_ | refine chkA ?_
    refine callA hse [0] ?_ (hargs := by simp only [D.rens, ren_slD, ren_tab]; rfl)
    repeat first | refine EffG.mk (obA ?_) | refine obA ?_ | refine chkA ?_ | refine brY ?_ | refine brN ?_
    refine retA [0]
  · rw [if_neg h5] at hse ⊢
    refine acA tab mix Tryd.func18 {} ?_
    refine EffG.mk (And.intro hT ?_)
    repeat first | refine EffG.mk (obA ?_) | refine obA ?_ | refine chkA ?_
    refine callA hse [0] ?_ (hargs := by simp only [D.rens, ren_slD, ren_tab]; rfl)
    repeat first | refine EffG.mk (obA ?_) | refine obA ?_ | refine chkA ?_ | refine brY ?_ | refine brN ?_
    refine retA [0]
theorem sadd_there_ac (ks : List (BitVec 8)) (l : List Slot) (salt master : List (BitVec 8)) (k n : Nat) (x : Option Nat) (ha : ks.length = k) (hx : x = none → k = 0) (hk : k ≤ 512) (hl : TabS l) (hs : salt.length = 16) (hm : master.length = 32) (h1 : 1 ≤ n) (h2 : n ≤ 4096)
    (hno : (opR ks l 0).2.2 = 0) :
    AC Tryd.prog 18 [tabD l, slD 0 k x, .u8s salt, .i64 n, .u8s master] 1 [(0, some ⟨.row .cell, .u8s ks, false⟩), gR] ⟨.tup [tabD tab0, .i64 23], [], []⟩ := by
  have hT := hl.ty
  have hse := sseal_there_ac ks l salt master k n x ha hx hk hl hs hm h1 h2 hno
  have hso := slot0_ok
  generalize slot0 = s0 at hse hso
  obtain ⟨u, t, sa, se, ch⟩ := s0
  obtain ⟨hsa, hse2, hch⟩ := hso
  have hsa : sa.length = 16 := hsa
  have hse2 : se.length = 32 := hse2
  have hch : ch.length = 32 := hch
  refine acA tab mix Tryd.func18 {} ?_
  refine EffG.mk (And.intro hT ?_)
  repeat first | refine EffG.mk (obA ?_) | refine obA ?_ | refine chkA ?_
  refine callA hse [0] ?_ (hargs := by simp only [D.rens, ren_slD, ren_tab]; rfl)
  repeat first | refine EffG.mk (obA ?_) | refine obA ?_ | refine chkA ?_ | refine brY ?_ | refine brN ?_
  refine retA [0]
end Go.Proofs.YtodkhgofmgaafaaDoor.Av

namespace Go.Proofs.YtodkhgofmgaafaaDoor.Av
open Go
set_option linter.all false
set_option maxRecDepth 3000

/-! the document's sums: the same functions -/
theorem rs_eq (x : BitVec 32) (n : Nat) (h1 : (BitVec.ofInt 64 (-(n : Int)) &&& 31#64).toNat = 32 - n) (h2 : (32#64 - (BitVec.ofInt 64 (-(n : Int)) &&& 31#64)).toNat = n) : x >>> n ||| x <<< (32 - n) = rotF x (-(n : Int)) := by
  rw [rotF, h1, h2, BitVec.or_comm]
theorem rr_ac (x : BitVec 32) (n : Nat) (h1 : (BitVec.ofInt 64 (-(n : Int)) &&& 31#64).toNat = 32 - n) (h2 : (32#64 - (BitVec.ofInt 64 (-(n : Int)) &&& 31#64)).toNat = n) (h3 : (BitVec.ofNat 64 n).toNat = n) (h4 : (32#64 - BitVec.ofNat 64 n).toNat = 32 - n) :
    AC Tryd.prog 134 [.u32 x, .u64 (BitVec.ofNat 64 n)] 0 [] ⟨.u32 (rotF x (-(n : Int))), [], []⟩ := by
  rw [← rs_eq x n h1 h2]
  have e : x >>> n ||| x <<< (32 - n) = x >>> (BitVec.ofNat 64 n).toNat ||| x <<< (32#64 - BitVec.ofNat 64 n).toNat := by rw [h3, h4]
  rw [e]
  refine acA tab mix Tryd.func134 {} ?_
  repeat first | refine EffG.mk (obA ?_) | refine obA ?_ | refine chkA ?_
  refine retA []
theorem ch_eq (e f g : BitVec 32) : e &&& f ^^^ ~~~e &&& g = e &&& f ||| ~~~e &&& g := by
  refine BitVec.eq_of_getLsbD_eq fun i hi => ?_
  simp only [BitVec.getLsbD_xor, BitVec.getLsbD_and, BitVec.getLsbD_or, BitVec.getLsbD_not, hi, decide_true, Bool.true_and]
  cases e.getLsbD i <;> cases f.getLsbD i <;> cases g.getLsbD i <;> rfl
theorem maj_eq (a b c : BitVec 32) : a &&& b ^^^ a &&& c ^^^ b &&& c = a &&& b ||| c &&& (a ||| b) := by
  refine BitVec.eq_of_getLsbD_eq fun i hi => ?_
  simp only [BitVec.getLsbD_xor, BitVec.getLsbD_and, BitVec.getLsbD_or]
  cases a.getLsbD i <;> cases b.getLsbD i <;> cases c.getLsbD i <;> rfl
theorem rd4_eq (bs : List (BitVec 8)) (o : Nat) : (rdI bs o 4).setWidth 32 = (bs.getD o 0).setWidth 32 <<< 24 ||| (bs.getD (o + 1) 0).setWidth 32 <<< 16 ||| (bs.getD (o + 2) 0).setWidth 32 <<< 8 ||| (bs.getD (o + 3) 0).setWidth 32 := by
  simp only [rdI, Nat.add_zero]
  generalize bs.getD o 0 = a
  generalize bs.getD (o + 1) 0 = b
  generalize bs.getD (o + 2) 0 = c
  generalize bs.getD (o + 3) 0 = d
  refine BitVec.eq_of_getLsbD_eq fun i hi => ?_
  simp only [BitVec.getLsbD_setWidth, BitVec.getLsbD_or, BitVec.getLsbD_shiftLeft, hi, decide_true, Bool.true_and, BitVec.getLsbD_zero, Bool.and_false, Bool.false_or]
  have key : ∀ (x : BitVec 8) (k : Nat), 8 ≤ k → x.getLsbD k = false := fun x k hk => BitVec.getLsbD_of_ge _ _ hk
  rcases Nat.lt_or_ge i 8 with h | h
  · simp [h, show i < 16 by omega, show i < 24 by omega, show i < 64 by omega]
  rcases Nat.lt_or_ge i 16 with h2 | h2
  · simp [show ¬ i < 8 by omega, h2, show i < 24 by omega, show i < 64 by omega, key d i h, show i - 8 < 8 by omega, show i - 8 < 64 by omega, show i - 8 < 32 by omega]
  rcases Nat.lt_or_ge i 24 with h3 | h3
  · simp [show ¬ i < 8 by omega, show ¬ i < 16 by omega, h3, show i < 64 by omega, key d i h, key c (i - 8) (by omega), show ¬ i - 8 < 8 by omega, show i - 8 < 64 by omega, show i - 8 - 8 = i - 16 by omega, show i - 16 < 8 by omega, show i - 16 < 64 by omega, show i - 16 < 32 by omega]
  · simp [show ¬ i < 8 by omega, show ¬ i < 16 by omega, show ¬ i < 24 by omega, show i < 64 by omega, key d i h, key c (i - 8) (by omega), key b (i - 16) (by omega), show ¬ i - 8 < 8 by omega, show i - 8 < 64 by omega, show i - 8 - 8 = i - 16 by omega, show i - 16 - 8 = i - 24 by omega, show ¬ i - 16 < 8 by omega, show i - 16 < 64 by omega, show i - 24 < 64 by omega, show i - 24 < 32 by omega]

abbrev gK : Nat × Option Ent := (gid 0, some ⟨.arr 64 .cell, .u32s K256, false⟩)
set_option maxHeartbeats 2000000 in
theorem rblock_ac (s : List (BitVec 32)) (bs : List (BitVec 8)) (o : Nat) (cap : Option Nat) (hs : s.length = 8) (ho : o + 64 ≤ bs.length) (hl : bs.length < 9223372036854775808) :
    AC Tryd.prog 106 [.u32s s, .slice 0 [] o 64 cap] 1 [(0, some ⟨.row .cell, .u8s bs, false⟩), gK] ⟨.u32s (sbF s bs o), [], []⟩ := by
  have hK := K256_length
  have e0 : sbF s bs o = sumI s (vI (wI bs o 64) s 64) 8 := rfl
  rw [e0]
  refine acA tab mix Tryd.func106 {} ?_
  repeat first | refine EffG.mk (obA ?_) | refine obA ?_ | refine chkA ?_
  refine loopG Nat (fun t => [(1, .slice 0 [] o 64 cap), (2, .ptr 1 []), (4, .ptr 2 []), (5, .ptr 3 []), (6, .i64 t)]) (fun t => [(0, some ⟨.row .cell, .u8s bs, false⟩), (1, some ⟨t8, .u32s s, true⟩), (2, some ⟨t8, .u32s (List.replicate 8 0), true⟩), (3, some ⟨.arr 64 .cell, .u32s (wI bs o t), true⟩), gK]) 4
    (fun t => t ≤ 16) (fun t => 16 - t) 0 [0, 1, 2, 3] (Nat.zero_le _) viewA ?_
  intro t ht
  have hw := wI_length bs o t
  repeat first | refine EffG.mk (obA ?_) | refine obA ?_ | refine chkA ?_
  refine Br.split (fun h => ?_) (fun h => ?_)
  · have ht : t < 16 := by have := of_decide_eq_true h; omega
    have e : wI bs o (t + 1) = (wI bs o t).set t ((rdI bs (o + 4 * t) 4).setWidth 32) := by rw [wI, if_pos ht]
    repeat first | refine EffG.mk (obA ?_) | refine obA ?_ | refine chkA ?_
    refine nextA (t + 1) [0, 1, 2, 3] (viewA (h3 := ?_))
    rw [e, rd4_eq]
    refine ⟨⟨_, rfl, rfl, rfl, id⟩, ⟨_, rfl, rfl, rfl, id⟩, ⟨_, rfl, rfl, rfl, id⟩, ⟨_, rfl, rfl, ?_, id⟩, ⟨_, rfl, rfl, rfl, id⟩, trivial⟩
    rw [Nat.add_assoc o (4 * t) 1, Nat.add_assoc o (4 * t) 2, Nat.add_assoc o (4 * t) 3, show 4 * t = (4 * (t : Int)).toNat by omega, show (4 * (t : Int)).toNat + 1 = (4 * (t : Int) + 1).toNat by omega, show (4 * (t : Int)).toNat + 2 = (4 * (t : Int) + 2).toNat by omega, show (4 * (t : Int)).toNat + 3 = (4 * (t : Int) + 3).toNat by omega]
    rfl
  · obtain rfl : t = 16 := by have := of_decide_eq_false h; omega
    repeat first | refine EffG.mk (obA ?_) | refine obA ?_ | refine chkA ?_
    refine loopG Nat (fun t => [(2, .ptr 1 []), (4, .ptr 2 []), (5, .ptr 3 []), (7, .i64 t)]) (fun t => [(0, some ⟨.row .cell, .u8s bs, false⟩), (1, some ⟨t8, .u32s s, true⟩), (2, some ⟨t8, .u32s (List.replicate 8 0), true⟩), (3, some ⟨.arr 64 .cell, .u32s (wI bs o t), true⟩), gK]) 4
      (fun t => 16 ≤ t ∧ t ≤ 64) (fun t => 64 - t) 16 [0, 1, 2, 3] (by decide) viewA ?_
    intro t ht
    have hw := wI_length bs o t
    repeat first | refine EffG.mk (obA ?_) | refine obA ?_ | refine chkA ?_
    refine Br.split (fun h => ?_) (fun h => ?_)
    · have ht2 : t < 64 := by have := of_decide_eq_true h; omega
      have e : wI bs o (t + 1) = (wI bs o t).set t (mixW ((wI bs o t).getD ((t : Int) - 2).toNat 0) 17 19 10 + (wI bs o t).getD ((t : Int) - 7).toNat 0 + mixW ((wI bs o t).getD ((t : Int) - 15).toNat 0) 7 18 3 + (wI bs o t).getD ((t : Int) - 16).toNat 0) := by
        rw [wI, if_neg (by omega)]
      generalize wI bs o t = w at hw e ⊢
      repeat first | refine EffG.mk (obA ?_) | refine obA ?_ | refine chkA ?_
      refine callA (rr_ac _ 17 (by decide) (by decide) (by decide) (by decide)) [] ?_
      repeat first | refine EffG.mk (obA ?_) | refine obA ?_ | refine chkA ?_
      refine callA (rr_ac _ 19 (by decide) (by decide) (by decide) (by decide)) [] ?_
      repeat first | refine EffG.mk (obA ?_) | refine obA ?_ | refine chkA ?_
      refine callA (rr_ac _ 7 (by decide) (by decide) (by decide) (by decide)) [] ?_
      repeat first | refine EffG.mk (obA ?_) | refine obA ?_ | refine chkA ?_
      refine callA (rr_ac _ 18 (by decide) (by decide) (by decide) (by decide)) [] ?_
      repeat first | refine EffG.mk (obA ?_) | refine obA ?_ | refine chkA ?_
      refine nextA (t + 1) [0, 1, 2, 3] (viewA (h3 := ?_))
      rw [e]
      exact ⟨⟨_, rfl, rfl, rfl, id⟩, ⟨_, rfl, rfl, rfl, id⟩, ⟨_, rfl, rfl, rfl, id⟩, ⟨_, rfl, rfl, rfl, id⟩, ⟨_, rfl, rfl, rfl, id⟩, trivial⟩
    · obtain rfl : t = 64 := by have := of_decide_eq_false h; omega
      generalize wI bs o 64 = w at hw ⊢
      repeat first | refine EffG.mk (obA ?_) | refine obA ?_ | refine chkA ?_
      refine loopG Nat (fun t => [(2, .ptr 1 []), (4, .ptr 2 []), (5, .ptr 3 []), (10, .ptr 4 []), (11, .i64 t)]) (fun t => [(0, some ⟨.row .cell, .u8s bs, false⟩), (1, some ⟨t8, .u32s s, true⟩), (2, some ⟨t8, .u32s (List.replicate 8 0), true⟩), (3, some ⟨.arr 64 .cell, .u32s w, true⟩),
        (4, some ⟨t8, .u32s (vI w s t), true⟩), gK]) 5 (fun t => t ≤ 64) (fun t => 64 - t) 0 [0, 1, 2, 3, 4] (Nat.zero_le _) viewA ?_
      intro t ht
      have hv := vI_length w s hs t
      repeat first | refine EffG.mk (obA ?_) | refine obA ?_ | refine chkA ?_
      refine Br.split (fun h => ?_) (fun h => ?_)
      · have ht : t < 64 := by have := of_decide_eq_true h; omega
        have e : vI w s (t + 1) = vS (vI w s t) (K256.getD t 0) (w.getD t 0) := rfl
        generalize vI w s t = v at hv e ⊢
        obtain ⟨v0, v1, v2, v3, v4, v5, v6, v7, rfl⟩ := len8 hv
        repeat first | refine EffG.mk (obA ?_) | refine obA ?_ | refine chkA ?_
        refine callA (rr_ac _ 6 (by decide) (by decide) (by decide) (by decide)) [] ?_
        repeat first | refine EffG.mk (obA ?_) | refine obA ?_ | refine chkA ?_
        refine callA (rr_ac _ 11 (by decide) (by decide) (by decide) (by decide)) [] ?_
        repeat first | refine EffG.mk (obA ?_) | refine obA ?_ | refine chkA ?_
        refine callA (rr_ac _ 25 (by decide) (by decide) (by decide) (by decide)) [] ?_
        repeat first | refine EffG.mk (obA ?_) | refine obA ?_ | refine chkA ?_
        refine callA (rr_ac _ 2 (by decide) (by decide) (by decide) (by decide)) [] ?_
        repeat first | refine EffG.mk (obA ?_) | refine obA ?_ | refine chkA ?_
        refine callA (rr_ac _ 13 (by decide) (by decide) (by decide) (by decide)) [] ?_
        repeat first | refine EffG.mk (obA ?_) | refine obA ?_ | refine chkA ?_
        refine callA (rr_ac _ 22 (by decide) (by decide) (by decide) (by decide)) [] ?_
        repeat first | refine EffG.mk (obA ?_) | refine obA ?_ | refine chkA ?_
        refine nextA (t + 1) [0, 1, 2, 3, 4] (viewA (h3 := ?_))
        rw [e]
        refine ⟨⟨_, rfl, rfl, rfl, id⟩, ⟨_, rfl, rfl, rfl, id⟩, ⟨_, rfl, rfl, rfl, id⟩, ⟨_, rfl, rfl, rfl, id⟩, ⟨_, rfl, rfl, ?_, id⟩, ⟨_, rfl, rfl, rfl, id⟩, trivial⟩
        rw [ch_eq, maj_eq]
        rfl
      · obtain rfl : t = 64 := by have := of_decide_eq_false h; omega
        generalize vI w s 64 = v at hv ⊢
        repeat first | refine EffG.mk (obA ?_) | refine obA ?_ | refine chkA ?_
        refine loopG Nat (fun i => [(2, .ptr 1 []), (4, .ptr 2 []), (10, .ptr 3 []), (20, .i64 i)]) (fun i => [(0, some ⟨.row .cell, .u8s bs, false⟩), (1, some ⟨t8, .u32s (sumI s v i), true⟩), (2, some ⟨t8, .u32s (List.replicate 8 0), true⟩), (3, some ⟨t8, .u32s v, true⟩), gK]) 4 (fun i => i ≤ 8) (fun i => 8 - i) 0 [0, 1, 2, 4] (Nat.zero_le _) viewA ?_
        intro i hi
        have hs2 := sumI_length s v i
        repeat first | refine EffG.mk (obA ?_) | refine obA ?_ | refine chkA ?_
        refine Br.split (fun h => ?_) (fun h => ?_)
        · have hi : i < 8 := by have := of_decide_eq_true h; omega
          repeat first | refine EffG.mk (obA ?_) | refine obA ?_ | refine chkA ?_
          refine nextA (i + 1) [0, 1, 2, 3] viewA
        · obtain rfl : i = 8 := by have := of_decide_eq_false h; omega
          repeat first | refine EffG.mk (obA ?_) | refine obA ?_ | refine chkA ?_
          refine retA [0]
end Go.Proofs.YtodkhgofmgaafaaDoor.Av

namespace Go.Proofs.YtodkhgofmgaafaaDoor.Av
open Go
set_option linter.all false
set_option maxRecDepth 3000

def be8 (n : BitVec 64) : List (BitVec 8) := [(n >>> 56).setWidth 8, (n >>> 48).setWidth 8, (n >>> 40).setWidth 8, (n >>> 32).setWidth 8, (n >>> 24).setWidth 8, (n >>> 16).setWidth 8, (n >>> 8).setWidth 8, (n >>> 0).setWidth 8]
def be4 (n : BitVec 64) : List (BitVec 8) := [(n >>> 24).setWidth 8, (n >>> 16).setWidth 8, (n >>> 8).setWidth 8, (n >>> 0).setWidth 8]
theorem be8_eq (n : BitVec 64) : be8 n = nbF n 8 := by
  have h : nbF n 8 = [(n >>> 8 >>> 8 >>> 8 >>> 8 >>> 8 >>> 8 >>> 8).setWidth 8, (n >>> 8 >>> 8 >>> 8 >>> 8 >>> 8 >>> 8).setWidth 8, (n >>> 8 >>> 8 >>> 8 >>> 8 >>> 8).setWidth 8, (n >>> 8 >>> 8 >>> 8 >>> 8).setWidth 8, (n >>> 8 >>> 8 >>> 8).setWidth 8, (n >>> 8 >>> 8).setWidth 8, (n >>> 8).setWidth 8, n.setWidth 8] := rfl
  rw [h, be8]
  simp only [← BitVec.shiftRight_add, BitVec.ushiftRight_zero]
theorem be4_eq (n : BitVec 64) : be4 n = nbF n 4 := by
  have h : nbF n 4 = [(n >>> 8 >>> 8 >>> 8).setWidth 8, (n >>> 8 >>> 8).setWidth 8, (n >>> 8).setWidth 8, n.setWidth 8] := rfl
  rw [h, be4]
  simp only [← BitVec.shiftRight_add, BitVec.ushiftRight_zero]

theorem rput8_ac (n : BitVec 64) : AC Tryd.prog 63 [.u64 n, .i64 8] 0 [] ⟨.slice 0 [] 0 8 none, [], [(.row .cell, .u8s (nbF n 8))]⟩ := by
  rw [← be8_eq]
  refine acA tab mix Tryd.func63 ⟨[], [3]⟩ ?_
  repeat first | refine EffG.mk (obA ?_) | refine obA ?_ | refine chkA ?_
  refine unrG 9 ?_
  repeat first | refine EffG.mk (obA ?_) | refine obA ?_ | refine chkA ?_ | refine brY ?_ | refine brN ?_
  refine ⟨1, ?_⟩
  repeat first | refine EffG.mk (obA ?_) | refine obA ?_ | refine chkA ?_ | refine brY ?_ | refine brN ?_
  refine ⟨0, ?_⟩
  repeat first | refine EffG.mk (obA ?_) | refine obA ?_ | refine chkA ?_ | refine brY ?_ | refine brN ?_
  refine ⟨0, ?_⟩
  repeat first | refine EffG.mk (obA ?_) | refine obA ?_ | refine chkA ?_ | refine brY ?_ | refine brN ?_
  refine ⟨0, ?_⟩
  repeat first | refine EffG.mk (obA ?_) | refine obA ?_ | refine chkA ?_ | refine brY ?_ | refine brN ?_
  refine ⟨0, ?_⟩
  repeat first | refine EffG.mk (obA ?_) | refine obA ?_ | refine chkA ?_ | refine brY ?_ | refine brN ?_
  refine ⟨0, ?_⟩
  repeat first | refine EffG.mk (obA ?_) | refine obA ?_ | refine chkA ?_ | refine brY ?_ | refine brN ?_
  refine ⟨0, ?_⟩
  repeat first | refine EffG.mk (obA ?_) | refine obA ?_ | refine chkA ?_ | refine brY ?_ | refine brN ?_
  refine ⟨0, ?_⟩
  repeat first | refine EffG.mk (obA ?_) | refine obA ?_ | refine chkA ?_ | refine brY ?_ | refine brN ?_
  refine retA [15]
theorem rput4_ac (n : BitVec 64) : AC Tryd.prog 63 [.u64 n, .i64 4] 0 [] ⟨.slice 0 [] 0 4 none, [], [(.row .cell, .u8s (nbF n 4))]⟩ := by
  rw [← be4_eq]
  refine acA tab mix Tryd.func63 ⟨[], [3]⟩ ?_
  repeat first | refine EffG.mk (obA ?_) | refine obA ?_ | refine chkA ?_
  refine unrG 5 ?_
  repeat first | refine EffG.mk (obA ?_) | refine obA ?_ | refine chkA ?_ | refine brY ?_ | refine brN ?_
  refine ⟨1, ?_⟩
  repeat first | refine EffG.mk (obA ?_) | refine obA ?_ | refine chkA ?_ | refine brY ?_ | refine brN ?_
  refine ⟨0, ?_⟩
  repeat first | refine EffG.mk (obA ?_) | refine obA ?_ | refine chkA ?_ | refine brY ?_ | refine brN ?_
  refine ⟨0, ?_⟩
  repeat first | refine EffG.mk (obA ?_) | refine obA ?_ | refine chkA ?_ | refine brY ?_ | refine brN ?_
  refine ⟨0, ?_⟩
  repeat first | refine EffG.mk (obA ?_) | refine obA ?_ | refine chkA ?_ | refine brY ?_ | refine brN ?_
  refine retA [7]

/-! the state as bytes -/
def wbI (s : List (BitVec 32)) : Nat → List (BitVec 8)
  | 0 => List.replicate 32 0
  | i + 1 => (wbI s i).set i ((s.getD (i / 4) 0 >>> (24 - 8 * (i % 4))).setWidth 8)
theorem wbI_length (s : List (BitVec 32)) : ∀ i, (wbI s i).length = 32
  | 0 => rfl
  | i + 1 => by rw [wbI, List.length_set, wbI_length s i]
theorem nb4w (x : BitVec 32) : nbF (x.setWidth 64) 4 = [(x >>> 24).setWidth 8, (x >>> 16).setWidth 8, (x >>> 8).setWidth 8, (x >>> 0).setWidth 8] := by
  have key : ∀ k : Nat, (x.setWidth 64 >>> k).setWidth 8 = (x >>> k).setWidth 8 := fun k => by
    refine BitVec.eq_of_getLsbD_eq fun i hi => ?_
    simp only [BitVec.getLsbD_setWidth, BitVec.getLsbD_ushiftRight, hi, decide_true, Bool.true_and]
    rcases Nat.lt_or_ge (k + i) 64 with h | h
    · simp [h]
    · rw [BitVec.getLsbD_of_ge x (k + i) (by omega)]; simp
  rw [← be4_eq, be4, key, key, key, key]
theorem wbI_out (s : List (BitVec 32)) (hs : s.length = 8) : wbI s 32 = outI s 8 := by
  obtain ⟨a, b, c, d, e, f, g, i, rfl⟩ := len8 hs
  simp only [outI, nb4w]
  kernel_rfl

theorem sl_eq {b a a' l l' : Nat} {c c' : Option Nat} (h1 : a = a') (h2 : l = l') (h3 : c = c') : [D.slice b [] a l c] = [D.slice b [] a' l' c'] := by rw [h1, h2, h3]
theorem rof_ac (bs : List (BitVec 8)) (o k : Nat) (cap : Option Nat) (h : o + k ≤ bs.length) (hk : k ≤ 35184372088832) :
    AC Tryd.prog 65 [.slice 0 [] o k cap] 1 [(0, some ⟨.row .cell, .u8s bs, false⟩), gK] ⟨.u8s (shaF ((bs.drop o).take k)), [], []⟩ := by
  have hl : ((bs.drop o).take k).length = k := by rw [List.length_take, List.length_drop]; omega
  have hS : shaF ((bs.drop o).take k) = outI (shaI H0 (padF ((bs.drop o).take k) k) ((padF ((bs.drop o).take k) k).length / 64)) 8 := by unfold shaF; rw [hl]
  have hP : padF ((bs.drop o).take k) k = padI ((bs.drop o).take k) (zN k) ++ nbF (BitVec.ofInt 64 k * 8) 8 := by rw [padF, hl]
  have hPl := padF_length ((bs.drop o).take k) k
  rw [hl] at hPl
  have hz := zN_mod k
  have hz2 : zN k < 64 := Nat.mod_lt _ (by decide)
  refine acA tab mix Tryd.func65 {} ?_
  generalize hc : (bs.drop o).take k = c at *
  have ht : List.take k c = c := List.take_of_length_le (by omega)
  repeat first | refine EffG.mk (obA ?_) | refine obA ?_ | refine chkA ?_
  refine ⟨0, ?_⟩
  repeat first | refine EffG.mk (obA ?_) | refine obA ?_ | refine chkA ?_
  refine ⟨0, ?_⟩
  repeat first | refine EffG.mk (obA ?_) | refine obA ?_ | refine chkA ?_
  refine loopG Nat (fun j => [(0, .slice 0 [] o k cap), (2, .ptr 1 []), (3, .slice 2 [] 0 (k + 1 + j) none)]) (fun j => [(0, some ⟨.row .cell, .u8s bs, false⟩), (1, some ⟨.arr 32 .cell, .u8s (List.replicate 32 0), true⟩), (2, some ⟨.row .cell, .u8s (padI c j), true⟩), gK]) 3
    (fun j => j ≤ zN k) (fun j => zN k - j) 0 [0, 1, 5] (Nat.zero_le _) (viewA (h3 := ?_)) ?_
  · exact ⟨⟨_, rfl, rfl, rfl, id⟩, ⟨_, rfl, rfl, rfl, id⟩, ⟨_, rfl, rfl, congrArg (fun x => D.u8s (x ++ [128])) (show List.take (0 + k) (List.take k (List.drop o bs)) = c by rw [hc, Nat.zero_add]; exact ht), id⟩, ⟨_, rfl, rfl, rfl, id⟩, trivial⟩
  intro j hj
  have hpl := padI_length c j
  rw [hl] at hpl
  have q : Int.tmod ((k + 1 + j : Nat) : Int) 64 = (((k + 1 + j) % 64 : Nat) : Int) := (Int.ofNat_tmod (k + 1 + j) 64).symm
  repeat first | rw [q] | refine EffG.mk (obA ?_) | refine obA ?_ | refine chkA ?_
  refine Br.split (fun h => ?_) (fun h => ?_)
  · have hj : j < zN k := by
      have h1 : ¬ (((k + 1 + j) % 64 : Nat) : Int) = 56 := by simpa only [Bool.not_eq_true', decide_eq_false_iff_not] using h
      rcases Nat.lt_or_ge j (zN k) with h | h
      · exact h
      · exfalso; obtain rfl : j = zN k := by omega
        omega
    have e := padI_succ c j
    generalize padI c j = x at hpl e ⊢
    repeat first | refine EffG.mk (obA ?_) | refine obA ?_ | refine chkA ?_
    refine ⟨0, ?_⟩
    repeat first | refine EffG.mk (obA ?_) | refine obA ?_ | refine chkA ?_
    refine nextA (j + 1) [0, 1, 4] (viewA (h3 := ?_))
    rw [e]
    exact ⟨⟨_, rfl, rfl, rfl, id⟩, ⟨_, rfl, rfl, rfl, id⟩, ⟨_, rfl, rfl, congrArg (fun x => D.u8s (x ++ [0])) (show List.take (k + 1 + j) x = x from List.take_of_length_le (by omega)), id⟩, ⟨_, rfl, rfl, rfl, id⟩, trivial⟩
  · obtain rfl : j = zN k := by
      have h1 : (((k + 1 + j) % 64 : Nat) : Int) = 56 := by simpa only [Bool.not_eq_false', decide_eq_true_eq] using h
      unfold zN at hj hz ⊢; omega
    repeat first | refine EffG.mk (obA ?_) | refine obA ?_ | refine chkA ?_
    have hpu := rput8_ac (BitVec.ofInt 64 k * 8)
    rw [BitVec.mul_comm] at hpu
    refine callA hpu [] ?_
    have hpp := nbF_length (BitVec.ofInt 64 k * 8) 8
    rw [BitVec.mul_comm] at hpp
    repeat first | refine EffG.mk (obA ?_) | refine obA ?_ | refine chkA ?_
    refine ⟨0, ?_⟩
    repeat first | refine EffG.mk (obA ?_) | refine obA ?_ | refine chkA ?_
    have hC : List.take (k + 1 + zN k) (padI c (zN k)) ++ List.take 8 (nbF (8 * BitVec.ofInt 64 k) 8) = padF c k := by rw [hP, List.take_of_length_le (by omega), List.take_of_length_le (by omega), BitVec.mul_comm]
    have hz3 : (k + 1 + zN k + 8) % 64 = 0 := by omega
    have hL : k + 1 + zN k + 8 < 70368744177664 := by omega
    generalize padF c k = P at hC hPl hS
    rw [show k + 9 + zN k = k + 1 + zN k + 8 by omega] at hPl
    refine loopG Nat (fun j => [(2, .ptr 1 []), (3, .slice 2 [] 0 (k + 1 + zN k + 8) none), (4, .ptr 3 []), (5, .i64 (64 * j : Nat))]) (fun j => [(0, some ⟨.row .cell, .u8s bs, false⟩),
      (1, some ⟨.arr 32 .cell, .u8s (List.replicate 32 0), true⟩), (2, some ⟨.row .cell, .u8s P, true⟩), (3, some ⟨t8, .u32s (shaI H0 P j), true⟩), gK]) 4
      (fun j => j ≤ P.length / 64) (fun j => P.length / 64 - j) 0 [0, 1, 4, 5] (Nat.zero_le _) (viewA (h3 := ?_)) ?_
    · exact ⟨⟨_, rfl, rfl, rfl, id⟩, ⟨_, rfl, rfl, rfl, id⟩, ⟨_, rfl, rfl, congrArg D.u8s hC, id⟩, ⟨_, rfl, rfl, rfl, id⟩, ⟨_, rfl, rfl, rfl, id⟩, trivial⟩
    generalize k + 1 + zN k + 8 = L at hPl hz3 hL ⊢
    intro j hj
    have hsl := shaI_length H0 P j
    rw [show H0.length = 8 from rfl] at hsl
    repeat first | refine EffG.mk (obA ?_) | refine obA ?_ | refine chkA ?_
    refine Br.split (fun h => ?_) (fun h => ?_)
    · have hj : 64 * j + 64 ≤ L := by have := of_decide_eq_true h; omega
      have e : shaI H0 P (j + 1) = sbF (shaI H0 P j) P (64 * j) := rfl
      have ha := rblock_ac (shaI H0 P j) P (64 * j) none hsl (by omega) (by omega)
      have hsb := sbF_length (shaI H0 P j) P (64 * j)
      rw [hsl] at hsb
      generalize sbF (shaI H0 P j) P (64 * j) = y at e ha hsb
      generalize shaI H0 P j = x at hsl ha ⊢
      repeat first | refine EffG.mk (obA ?_) | refine obA ?_ | refine chkA ?_
      refine callA ha [2] ?_ (hargs := ?_)
      rotate_left
      · exact congrArg (fun d => D.u32s x :: d) (sl_eq (Nat.zero_add _) (show (((64 * j : Nat) : Int) + 64).toNat - ((64 * j : Nat) : Int).toNat = 64 by omega) rfl)
      repeat first | refine EffG.mk (obA ?_) | refine obA ?_ | refine chkA ?_
      refine nextA (j + 1) [0, 1, 2, 3] (viewA (h2 := ?_) (h3 := ?_))
      · rw [show ((64 * (j + 1) : Nat) : Int) = ((64 * j : Nat) : Int) + 64 by omega]
        exact ⟨rfl, rfl, rfl, rfl, trivial⟩
      · rw [e]
        exact ⟨⟨_, rfl, rfl, rfl, id⟩, ⟨_, rfl, rfl, rfl, id⟩, ⟨_, rfl, rfl, rfl, id⟩, ⟨_, rfl, rfl, rfl, id⟩, ⟨_, rfl, rfl, rfl, id⟩, trivial⟩
    · obtain rfl : j = P.length / 64 := by have := of_decide_eq_false h; omega
      rw [hS, ← wbI_out _ hsl]
      generalize shaI H0 P (P.length / 64) = x at hsl ⊢
      repeat first | refine EffG.mk (obA ?_) | refine obA ?_ | refine chkA ?_
      refine loopG Nat (fun i => [(2, .ptr 1 []), (4, .ptr 2 []), (6, .ptr 3 []), (7, .i64 i)]) (fun i => [(0, some ⟨.row .cell, .u8s bs, false⟩), (1, some ⟨.arr 32 .cell, .u8s (List.replicate 32 0), true⟩), (2, some ⟨t8, .u32s x, true⟩),
        (3, some ⟨.arr 32 .cell, .u8s (wbI x i), true⟩), gK]) 4 (fun i => i ≤ 32) (fun i => 32 - i) 0 [0, 1, 3, 4] (Nat.zero_le _) viewA ?_
      intro i hi
      have hol := wbI_length x i
      repeat first | refine EffG.mk (obA ?_) | refine obA ?_ | refine chkA ?_
      refine Br.split (fun h => ?_) (fun h => ?_)
      · have hi : i < 32 := by have := of_decide_eq_true h; omega
        have e : wbI x (i + 1) = (wbI x i).set i ((x.getD (i / 4) 0 >>> (24 - 8 * (i % 4))).setWidth 8) := rfl
        have q1 : Int.tdiv (i : Int) 4 = ((i / 4 : Nat) : Int) := (Int.ofNat_tdiv i 4).symm
        have q2 : Int.tmod (i : Int) 4 = ((i % 4 : Nat) : Int) := (Int.ofNat_tmod i 4).symm
        have q3 : (BitVec.ofInt 64 (24 - 8 * ((i % 4 : Nat) : Int))).toNat = 24 - 8 * (i % 4) := by
          rw [show 24 - 8 * ((i % 4 : Nat) : Int) = ((24 - 8 * (i % 4) : Nat) : Int) by omega, BitVec.ofInt_natCast, BitVec.toNat_ofNat]; omega
        repeat first | rw [q1] | rw [q2] | rw [q3] | refine EffG.mk (obA ?_) | refine obA ?_ | refine chkA ?_
        refine nextA (i + 1) [0, 1, 2, 3] viewA
      · obtain rfl : i = 32 := by have := of_decide_eq_false h; omega
        repeat first | refine EffG.mk (obA ?_) | refine obA ?_ | refine chkA ?_
        refine retA [0]
end Go.Proofs.YtodkhgofmgaafaaDoor.Av

namespace Go.Proofs.YtodkhgofmgaafaaDoor.Av
open Go
set_option linter.all false
set_option maxRecDepth 3000

/-! sums that the kernel reckons: the same function, with all words as arguments -/
def goR : List (BitVec 32) → (x0 x1 x2 x3 x4 x5 x6 x7 x8 x9 x10 x11 x12 x13 x14 x15 a b c d e f g h : BitVec 32) → List (BitVec 32)
  | [], _, _, _, _, _, _, _, _, _, _, _, _, _, _, _, _, a, b, c, d, e, f, g, h => [a, b, c, d, e, f, g, h]
  | k :: ks, x0, x1, x2, x3, x4, x5, x6, x7, x8, x9, x10, x11, x12, x13, x14, x15, a, b, c, d, e, f, g, h =>
    goR ks x1 x2 x3 x4 x5 x6 x7 x8 x9 x10 x11 x12 x13 x14 x15 (mixW x14 17 19 10 + x9 + mixW x1 7 18 3 + x0)
      (h + rsF e 6 11 25 + (e &&& f ||| ~~~e &&& g) + k + x0 + (rsF a 2 13 22 + (a &&& b ||| c &&& (a ||| b)))) a b c (d + (h + rsF e 6 11 25 + (e &&& f ||| ~~~e &&& g) + k + x0)) e f g

theorem wI_keep (bs : List (BitVec 8)) (o t : Nat) : ∀ n, t < n → n ≤ 64 → (wI bs o n).getD t 0 = (wI bs o (t + 1)).getD t 0
  | 0, h, _ => absurd h (Nat.not_lt_zero t)
  | n + 1, h, hn => by
    by_cases e : t = n
    · rw [e]
    · have hl := wI_length bs o n
      rw [wI, getD_set (by omega), if_neg e]
      exact wI_keep bs o t n (by omega) (by omega)
theorem wI_lo (bs : List (BitVec 8)) (o t : Nat) (h : t < 16) : (wI bs o 64).getD t 0 = (rdI bs (o + 4 * t) 4).setWidth 32 := by
  have hl := wI_length bs o t
  rw [wI_keep bs o t 64 (by omega) (Nat.le_refl _), wI, getD_set (by omega), if_pos rfl, if_pos h]
theorem wI_hi (bs : List (BitVec 8)) (o t : Nat) (h : 16 ≤ t) (h2 : t < 64) : (wI bs o 64).getD t 0 =
    mixW ((wI bs o 64).getD (t - 2) 0) 17 19 10 + (wI bs o 64).getD (t - 7) 0 + mixW ((wI bs o 64).getD (t - 15) 0) 7 18 3 + (wI bs o 64).getD (t - 16) 0 := by
  have hl := wI_length bs o t
  have key : ∀ j, j < t → (wI bs o t).getD j 0 = (wI bs o 64).getD j 0 := fun j hj => by rw [wI_keep bs o j t hj (by omega), wI_keep bs o j 64 (by omega) (Nat.le_refl _)]
  rw [wI_keep bs o t 64 h2 (Nat.le_refl _), wI, getD_set (by omega), if_pos rfl, if_neg (by omega), show ((t : Int) - 2).toNat = t - 2 by omega, show ((t : Int) - 7).toNat = t - 7 by omega, show ((t : Int) - 15).toNat = t - 15 by omega, show ((t : Int) - 16).toNat = t - 16 by omega,
    key _ (by omega), key _ (by omega), key _ (by omega), key _ (by omega)]
theorem goR_eq (bs : List (BitVec 8)) (o : Nat) (s : List (BitVec 32)) (hs : s.length = 8) : ∀ (n t : Nat) (x0 x1 x2 x3 x4 x5 x6 x7 x8 x9 x10 x11 x12 x13 x14 x15 a b c d e f g h : BitVec 32), t + n = 64 →
    (∀ j, j < 16 → t + j < 64 → [x0, x1, x2, x3, x4, x5, x6, x7, x8, x9, x10, x11, x12, x13, x14, x15].getD j 0 = (wI bs o 64).getD (t + j) 0) → vI (wI bs o 64) s t = [a, b, c, d, e, f, g, h] →
    goR (K256.drop t) x0 x1 x2 x3 x4 x5 x6 x7 x8 x9 x10 x11 x12 x13 x14 x15 a b c d e f g h = vI (wI bs o 64) s 64
  | 0, t, x0, x1, x2, x3, x4, x5, x6, x7, x8, x9, x10, x11, x12, x13, x14, x15, a, b, c, d, e, f, g, h, ht, hx, hv => by
    obtain rfl : t = 64 := by omega
    rw [hv]; rfl
  | n + 1, t, x0, x1, x2, x3, x4, x5, x6, x7, x8, x9, x10, x11, x12, x13, x14, x15, a, b, c, d, e, f, g, h, ht, hx, hv => by
    have hk : K256.drop t = K256.getD t 0 :: K256.drop (t + 1) := by
      have hl : t < K256.length := by rw [K256_length]; omega
      rw [List.getD_eq_getElem?_getD, List.getElem?_eq_getElem hl, Option.getD_some, List.getElem_cons_drop]
    have h0 : x0 = (wI bs o 64).getD t 0 := hx 0 (by decide) (by omega)
    rw [hk, goR]
    refine goR_eq bs o s hs n (t + 1) _ _ _ _ _ _ _ _ _ _ _ _ _ _ _ _ _ _ _ _ _ _ _ _ (by omega) (fun j hj hj2 => ?_) ?_
    · by_cases e : j = 15
      · subst e
        have h1 : x1 = (wI bs o 64).getD (t + 1) 0 := hx 1 (by decide) (by omega)
        have h9 : x9 = (wI bs o 64).getD (t + 9) 0 := hx 9 (by decide) (by omega)
        have h14 : x14 = (wI bs o 64).getD (t + 14) 0 := hx 14 (by decide) (by omega)
        show mixW x14 17 19 10 + x9 + mixW x1 7 18 3 + x0 = _
        rw [wI_hi bs o (t + 1 + 15) (by omega) (by omega), h0, h1, h9, h14]
        rw [show t + 1 + 15 - 2 = t + 14 by omega, show t + 1 + 15 - 7 = t + 9 by omega, show t + 1 + 15 - 15 = t + 1 by omega, show t + 1 + 15 - 16 = t by omega]
      · have := hx (j + 1) (by omega) (by omega)
        rw [show t + 1 + j = t + (j + 1) by omega, ← this]
        have h15 : j < 15 := by omega
        clear this hx e hj hj2
        match j, h15 with
        | 0, _ | 1, _ | 2, _ | 3, _ | 4, _ | 5, _ | 6, _ | 7, _ | 8, _ | 9, _ | 10, _ | 11, _ | 12, _ | 13, _ | 14, _ => rfl
    · show vS (vI (wI bs o 64) s t) (K256.getD t 0) ((wI bs o 64).getD t 0) = _
      rw [hv, ← h0]; rfl

def addE : List (BitVec 32) → List (BitVec 32) → List (BitVec 32)
  | [a, b, c, d, e, f, g, h], [a', b', c', d', e', f', g', h'] => [a + a', b + b', c + c', d + d', e + e', f + f', g + g', h + h']
  | _, _ => []
def blkE : List (BitVec 32) → List (BitVec 32) → List (BitVec 32)
  | [a, b, c, d, e, f, g, h], [x0, x1, x2, x3, x4, x5, x6, x7, x8, x9, x10, x11, x12, x13, x14, x15] => addE [a, b, c, d, e, f, g, h] (goR K256 x0 x1 x2 x3 x4 x5 x6 x7 x8 x9 x10 x11 x12 x13 x14 x15 a b c d e f g h)
  | _, _ => []
theorem addE_eq {s v : List (BitVec 32)} (hs : s.length = 8) (hv : v.length = 8) : sumI s v 8 = addE s v := by
  obtain ⟨a, b, c, d, e, f, g, h, rfl⟩ := len8 hs
  obtain ⟨a', b', c', d', e', f', g', h', rfl⟩ := len8 hv
  rfl
def wordE (bs : List (BitVec 8)) (p : Nat) : BitVec 32 := (bs.getD p 0).setWidth 32 <<< 24 ||| (bs.getD (p + 1) 0).setWidth 32 <<< 16 ||| (bs.getD (p + 2) 0).setWidth 32 <<< 8 ||| (bs.getD (p + 3) 0).setWidth 32
theorem sbF_eval (s : List (BitVec 32)) (bs : List (BitVec 8)) (o : Nat) (hs : s.length = 8) : sbF s bs o = blkE s [wordE bs (o + 4 * 0), wordE bs (o + 4 * 1), wordE bs (o + 4 * 2), wordE bs (o + 4 * 3), wordE bs (o + 4 * 4), wordE bs (o + 4 * 5), wordE bs (o + 4 * 6), wordE bs (o + 4 * 7), wordE bs (o + 4 * 8), wordE bs (o + 4 * 9),
    wordE bs (o + 4 * 10), wordE bs (o + 4 * 11), wordE bs (o + 4 * 12), wordE bs (o + 4 * 13), wordE bs (o + 4 * 14), wordE bs (o + 4 * 15)] := by
  have hv := vI_length (wI bs o 64) s hs 64
  rw [sbF, addE_eq hs hv]
  obtain ⟨a, b, c, d, e, f, g, h, rfl⟩ := len8 hs
  rw [blkE, ← goR_eq bs o _ rfl 64 0 _ _ _ _ _ _ _ _ _ _ _ _ _ _ _ _ a b c d e f g h rfl (fun j hj _ => ?_) rfl, List.drop_zero]
  rw [Nat.zero_add, wI_lo bs o j hj, rd4_eq]
  match j, hj with
  | 0, _ | 1, _ | 2, _ | 3, _ | 4, _ | 5, _ | 6, _ | 7, _ | 8, _ | 9, _ | 10, _ | 11, _ | 12, _ | 13, _ | 14, _ | 15, _ => rfl
  | j + 16, h => exact absurd h (by omega)

/-- a sum by its words: 64 bytes a block -/
def wordsE : Nat → List (BitVec 8) → List (BitVec 32)
  | n + 1, a :: b :: c :: d :: r => (a.setWidth 32 <<< 24 ||| b.setWidth 32 <<< 16 ||| c.setWidth 32 <<< 8 ||| d.setWidth 32) :: wordsE n r
  | _, _ => []
def msgE : Nat → List (BitVec 32) → List (BitVec 8) → List (BitVec 32)
  | 0, s, _ => s
  | n + 1, s, m => msgE n (blkE s (wordsE 16 m)) (m.drop 64)
theorem wordsE_eq : ∀ (n : Nat) (m : List (BitVec 8)) (o : Nat), o + 4 * n ≤ m.length → ∀ j, j < n → (wordsE n (m.drop o)).getD j 0 = wordE m (o + 4 * j)
  | 0, m, o, h, j, hj => absurd hj (Nat.not_lt_zero j)
  | n + 1, m, o, h, j, hj => by
    have key : ∀ p, p < m.length → m.drop p = m.getD p 0 :: m.drop (p + 1) := fun p hp => by
      rw [List.getD_eq_getElem?_getD, List.getElem?_eq_getElem hp, Option.getD_some, List.getElem_cons_drop]
    rw [key o (by omega), key (o + 1) (by omega), key (o + 1 + 1) (by omega), key (o + 1 + 1 + 1) (by omega), wordsE]
    match j, hj with
    | 0, _ => rfl
    | j + 1, hj =>
      show (wordsE n (m.drop (o + 1 + 1 + 1 + 1))).getD j 0 = _
      rw [show o + 1 + 1 + 1 + 1 = o + 4 by omega, wordsE_eq n m (o + 4) (by omega) j (by omega), show o + 4 + 4 * j = o + 4 * (j + 1) by omega]
theorem wordsE_length : ∀ (n : Nat) (m : List (BitVec 8)), 4 * n ≤ m.length → (wordsE n m).length = n
  | 0, m, _ => by cases m <;> rfl
  | n + 1, a :: b :: c :: d :: r, h => by
    rw [wordsE, List.length_cons, wordsE_length n r (by simp only [List.length_cons] at h; omega)]
  | n + 1, [], h => by simp at h
  | n + 1, [_], h => by simp at h; omega
  | n + 1, [_, _], h => by simp at h; omega
  | n + 1, [_, _, _], h => by simp at h; omega
theorem len16 {α : Type} {l : List α} (h : l.length = 16) : ∃ a b c d e f g i a' b' c' d' e' f' g' i', l = [a, b, c, d, e, f, g, i, a', b', c', d', e', f', g', i'] := by
  match l, h with
  | [a, b, c, d, e, f, g, i, a', b', c', d', e', f', g', i'], _ => exact ⟨a, b, c, d, e, f, g, i, a', b', c', d', e', f', g', i', rfl⟩
theorem sb_words (s : List (BitVec 32)) (m : List (BitVec 8)) (o : Nat) (hs : s.length = 8) (h : o + 64 ≤ m.length) : sbF s m o = blkE s (wordsE 16 (m.drop o)) := by
  rw [sbF_eval s m o hs]
  have hl := wordsE_length 16 (m.drop o) (by rw [List.length_drop]; omega)
  have hw := wordsE_eq 16 m o (by omega)
  generalize wordsE 16 (m.drop o) = w at hl hw
  obtain ⟨a, b, c, d, e, f, g, i, a', b', c', d', e', f', g', i', rfl⟩ := len16 hl
  rw [← hw 0 (by decide), ← hw 1 (by decide), ← hw 2 (by decide), ← hw 3 (by decide), ← hw 4 (by decide), ← hw 5 (by decide), ← hw 6 (by decide), ← hw 7 (by decide), ← hw 8 (by decide), ← hw 9 (by decide), ← hw 10 (by decide), ← hw 11 (by decide), ← hw 12 (by decide), ← hw 13 (by decide), ← hw 14 (by decide), ← hw 15 (by decide)]
  rfl
theorem msgE_eq (s : List (BitVec 32)) (hs : s.length = 8) (m : List (BitVec 8)) : ∀ (n j : Nat), 64 * (j + n) ≤ m.length → msgE n (shaI s m j) (m.drop (64 * j)) = shaI s m (j + n)
  | 0, j, _ => rfl
  | n + 1, j, h => by
    rw [msgE, ← sb_words _ m (64 * j) (by rw [shaI_length, hs]) (by omega), List.drop_drop]
    have := msgE_eq s hs m n (j + 1) (by omega)
    rw [show 64 * (j + 1) = 64 * j + 64 by omega, shaI] at this
    rw [this, show j + 1 + n = j + (n + 1) by omega]
def outE : List (BitVec 32) → List (BitVec 8)
  | x :: r => x.setWidth 8 |> fun l => (x >>> 24).setWidth 8 :: (x >>> 16).setWidth 8 :: (x >>> 8).setWidth 8 :: l :: outE r
  | [] => []
theorem outE_eq {s : List (BitVec 32)} (hs : s.length = 8) : outI s 8 = outE s := by
  obtain ⟨a, b, c, d, e, f, g, i, rfl⟩ := len8 hs
  rw [← wbI_out _ rfl]
  have h : ∀ x : BitVec 32, x >>> 0 = x := fun x => BitVec.ushiftRight_zero x
  simp only [outE]
  have key : wbI [a, b, c, d, e, f, g, i] 32 = outE [a >>> 0, b >>> 0, c >>> 0, d >>> 0, e >>> 0, f >>> 0, g >>> 0, i >>> 0] := by
    simp only [outE, h]
    kernel_rfl
  rw [key]
  simp only [outE, h]
/-- what the kernel reckons: n blocks -/
def shaE (m : List (BitVec 8)) (n : Nat) : List (BitVec 8) := outE (msgE n H0 (padF m m.length))
theorem shaE_eq (m : List (BitVec 8)) (n : Nat) (h : (m.length + 9 + zN m.length) / 64 = n) : shaF m = shaE m n := by
  have hp := padF_length m m.length
  have := msgE_eq H0 rfl (padF m m.length) n 0 (by rw [hp]; omega)
  rw [Nat.zero_add] at this
  rw [shaF, outE_eq (by rw [shaI_length]; rfl), hp, h, ← this]
  rfl
/-- the document's example -/
theorem sha_abc : (shaE [97, 98, 99] 1).getD 0 0 = 0xba := by kernel_rfl
end Go.Proofs.YtodkhgofmgaafaaDoor.Av

namespace Go.Proofs.YtodkhgofmgaafaaDoor.Av
open Go
set_option linter.all false
set_option maxRecDepth 3000

/-! the closed case of the key slots: printed by gen_aw.py -/
def saltA : List (BitVec 8) := (List.replicate 16 0).set 0 1
def mastA : List (BitVec 8) := (List.replicate 32 0).set 0 7
theorem hm_lit {key m i o : List (BitVec 8)} (a : Nat) (h1 : shaE (ipF key ++ m) a = i) (h2 : shaE (opF key ++ i) 2 = o) (h3 : ((ipF key ++ m).length + 9 + zN (ipF key ++ m).length) / 64 = a) (h4 : ((opF key ++ i).length + 9 + zN (opF key ++ i).length) / 64 = 2) : hmF key m = o := by
  rw [hmF, shaE_eq _ a h3, h1, shaE_eq _ 2 h4, h2]
theorem enc_lit {ks : List (List (BitVec 8))} {b l l' : List (BitVec 8)} {n : Nat} (h : encI ks b n = l) (h2 : xorF (if n + 1 < 14 then mixF (subI l 16) else subI l 16) (ks.getD (n + 1) []) = l') : encI ks b (n + 1) = l' := by
  rw [encI, h, h2]
def yaI : List (BitVec 8) := [189, 45, 152, 43, 241, 47, 170, 114, 79, 208, 79, 91, 52, 63, 16, 0, 93, 205, 36, 226, 157, 170, 189, 54, 29, 36, 115, 75, 13, 139, 59, 4]
def yaE : List (BitVec 8) := [181, 192, 57, 159, 45, 16, 205, 237, 75, 32, 210, 106, 173, 17, 120, 74, 115, 205, 145, 123, 209, 130, 60, 239, 97, 215, 230, 11, 140, 179, 132, 236]
theorem ya_eq : hmF [97] (saltA ++ [0, 0, 0, 1]) = yaE := hm_lit (i := yaI) 2 (by kernel_rfl) (by kernel_rfl) (by kernel_rfl) (by kernel_rfl)
def ybI : List (BitVec 8) := [28, 230, 1, 92, 214, 194, 153, 36, 21, 96, 34, 247, 219, 177, 115, 144, 94, 167, 167, 138, 241, 234, 163, 149, 73, 219, 69, 48, 96, 146, 160, 102]
def ybE : List (BitVec 8) := [131, 244, 247, 121, 43, 41, 189, 202, 56, 19, 172, 220, 24, 241, 245, 160, 6, 30, 136, 29, 183, 120, 190, 251, 170, 231, 199, 242, 243, 28, 105, 115]
theorem yb_eq : hmF [98] (saltA ++ [0, 0, 0, 1]) = ybE := hm_lit (i := ybI) 2 (by kernel_rfl) (by kernel_rfl) (by kernel_rfl) (by kernel_rfl)
def laI : List (BitVec 8) := [85, 82, 196, 169, 209, 175, 90, 60, 147, 245, 219, 58, 47, 43, 12, 84, 253, 212, 186, 18, 88, 149, 116, 207, 215, 236, 102, 125, 80, 124, 245, 207]
def laE : List (BitVec 8) := [179, 208, 191, 57, 134, 29, 143, 250, 5, 253, 156, 78, 43, 74, 78, 72, 43, 10, 116, 100, 79, 205, 254, 2, 236, 60, 214, 16, 254, 196, 199, 233]
theorem la_eq : hmF yaE (oursF ++ wrapS) = laE := hm_lit (i := laI) 2 (by kernel_rfl) (by kernel_rfl) (by kernel_rfl) (by kernel_rfl)
def caI : List (BitVec 8) := [154, 244, 0, 206, 98, 15, 36, 204, 226, 228, 41, 194, 11, 134, 76, 15, 219, 47, 182, 103, 104, 94, 136, 46, 20, 25, 238, 247, 203, 120, 234, 182]
def caE : List (BitVec 8) := [127, 125, 243, 9, 138, 102, 104, 198, 7, 28, 203, 9, 69, 250, 168, 2, 96, 58, 39, 118, 190, 206, 40, 113, 39, 203, 93, 216, 202, 10, 183, 218]
theorem ca_eq : hmF yaE (oursF ++ checkS) = caE := hm_lit (i := caI) 2 (by kernel_rfl) (by kernel_rfl) (by kernel_rfl) (by kernel_rfl)
def cbI : List (BitVec 8) := [116, 209, 24, 45, 186, 240, 216, 87, 115, 28, 234, 48, 118, 60, 151, 43, 238, 77, 250, 142, 191, 45, 1, 207, 210, 9, 128, 77, 19, 162, 67, 150]
def cbE : List (BitVec 8) := [107, 127, 193, 241, 3, 190, 150, 237, 118, 253, 158, 200, 158, 150, 152, 245, 95, 68, 214, 139, 246, 107, 10, 66, 81, 240, 218, 204, 40, 33, 100, 127]
theorem cb_eq : hmF ybE (oursF ++ checkS) = cbE := hm_lit (i := cbI) 2 (by kernel_rfl) (by kernel_rfl) (by kernel_rfl) (by kernel_rfl)
def zE : List (BitVec 8) := [222, 106, 223, 99, 47, 215, 112, 235, 163, 64, 229, 138, 100, 211, 68, 220, 155, 80, 90, 70, 180, 178, 188, 156, 248, 123, 189, 172, 20, 151, 209, 45]
def ksE : List (List (BitVec 8)) := [[179, 208, 191, 57, 134, 29, 143, 250, 5, 253, 156, 78, 43, 74, 78, 72], [43, 10, 116, 100, 79, 205, 254, 2, 236, 60, 214, 16, 254, 196, 199, 233], [174, 22, 161, 130, 40, 11, 46, 120, 45, 246, 178, 54, 6, 188, 252, 126], [68, 111, 196, 151, 11, 162, 58, 149, 231, 158, 236, 133, 25, 90, 43, 108], [18, 231, 241, 86, 58, 236, 223, 46, 23, 26, 109, 24, 17, 166, 145, 102], [198, 75, 69, 164, 205, 233, 127, 49, 42, 119, 147, 180, 51, 45, 184, 216], [206, 139, 144, 149, 244, 103, 79, 187, 227, 125, 34, 163, 242, 219, 179, 197], [79, 242, 40, 2, 130, 27, 87, 51, 168, 108, 196, 135, 155, 65, 124, 95], [69, 155, 95, 129, 177, 252, 16, 58, 82, 129, 50, 153, 160, 90, 129, 92], [175, 76, 36, 72, 45, 87, 115, 123, 133, 59, 183, 252, 30, 122, 203, 163], [143, 132, 85, 243, 62, 120, 69, 201, 108, 249, 119, 80, 204, 163, 246, 12], [228, 70, 102, 182, 201, 17, 21, 205, 76, 42, 162, 49, 82, 80, 105, 146], [252, 125, 26, 243, 194, 5, 95, 58, 174, 252, 40, 106, 98, 95, 222, 102], [78, 137, 123, 133, 135, 152, 110, 72, 203, 178, 204, 121, 153, 226, 165, 235], [36, 123, 243, 29, 230, 126, 172, 39, 72, 130, 132, 77, 42, 221, 90, 43]]
theorem ks_eq : schedF laE = ksE := by kernel_rfl
def e0_0 : List (BitVec 8) := [179, 208, 191, 57, 134, 29, 143, 250, 5, 253, 156, 78, 43, 74, 78, 72]
def e0_1 : List (BitVec 8) := [138, 31, 236, 13, 6, 66, 134, 145, 126, 213, 12, 41, 203, 111, 209, 188]
def e0_2 : List (BitVec 8) := [189, 76, 187, 24, 26, 247, 92, 65, 124, 134, 246, 71, 130, 81, 95, 138]
def e0_3 : List (BitVec 8) := [52, 125, 208, 207, 250, 111, 181, 162, 198, 145, 124, 147, 174, 101, 126, 97]
def e0_4 : List (BitVec 8) := [62, 107, 75, 3, 129, 92, 11, 36, 249, 158, 58, 150, 209, 31, 68, 216]
def e0_5 : List (BitVec 8) := [134, 151, 5, 97, 168, 165, 195, 195, 221, 141, 237, 27, 117, 0, 4, 245]
def e0_6 : List (BitVec 8) := [255, 218, 73, 221, 145, 253, 5, 140, 154, 233, 36, 175, 209, 144, 16, 154]
def e0_7 : List (BitVec 8) := [17, 174, 213, 49, 178, 34, 31, 230, 60, 61, 198, 199, 12, 21, 72, 211]
def e0_8 : List (BitVec 8) := [38, 133, 151, 247, 35, 180, 246, 131, 249, 83, 15, 226, 118, 234, 81, 246]
def e0_9 : List (BitVec 8) := [226, 98, 116, 53, 244, 176, 185, 253, 90, 216, 141, 128, 22, 41, 83, 21]
def e0_10 : List (BitVec 8) := [146, 119, 123, 72, 131, 191, 251, 168, 57, 239, 175, 22, 60, 156, 251, 184]
def e0_11 : List (BitVec 8) := [119, 254, 103, 206, 45, 27, 206, 150, 242, 62, 113, 103, 211, 28, 160, 192]
def e0_12 : List (BitVec 8) := [254, 137, 200, 148, 207, 18, 104, 22, 13, 82, 135, 200, 118, 87, 154, 237]
def e0_13 : List (BitVec 8) := [33, 215, 216, 39, 18, 227, 233, 49, 60, 183, 66, 38, 182, 168, 147, 138]
def e0_14 : List (BitVec 8) := [217, 106, 223, 99, 47, 215, 112, 235, 163, 64, 229, 138, 100, 211, 68, 220]
theorem r0_0 : encI ksE (blkN 0) 0 = e0_0 := by kernel_rfl
theorem r0_1 : encI ksE (blkN 0) 1 = e0_1 := enc_lit r0_0 (by kernel_rfl)
theorem r0_2 : encI ksE (blkN 0) 2 = e0_2 := enc_lit r0_1 (by kernel_rfl)
theorem r0_3 : encI ksE (blkN 0) 3 = e0_3 := enc_lit r0_2 (by kernel_rfl)
theorem r0_4 : encI ksE (blkN 0) 4 = e0_4 := enc_lit r0_3 (by kernel_rfl)
theorem r0_5 : encI ksE (blkN 0) 5 = e0_5 := enc_lit r0_4 (by kernel_rfl)
theorem r0_6 : encI ksE (blkN 0) 6 = e0_6 := enc_lit r0_5 (by kernel_rfl)
theorem r0_7 : encI ksE (blkN 0) 7 = e0_7 := enc_lit r0_6 (by kernel_rfl)
theorem r0_8 : encI ksE (blkN 0) 8 = e0_8 := enc_lit r0_7 (by kernel_rfl)
theorem r0_9 : encI ksE (blkN 0) 9 = e0_9 := enc_lit r0_8 (by kernel_rfl)
theorem r0_10 : encI ksE (blkN 0) 10 = e0_10 := enc_lit r0_9 (by kernel_rfl)
theorem r0_11 : encI ksE (blkN 0) 11 = e0_11 := enc_lit r0_10 (by kernel_rfl)
theorem r0_12 : encI ksE (blkN 0) 12 = e0_12 := enc_lit r0_11 (by kernel_rfl)
theorem r0_13 : encI ksE (blkN 0) 13 = e0_13 := enc_lit r0_12 (by kernel_rfl)
theorem r0_14 : encI ksE (blkN 0) 14 = e0_14 := enc_lit r0_13 (by kernel_rfl)
def e1_0 : List (BitVec 8) := [179, 208, 191, 57, 134, 29, 143, 250, 5, 253, 156, 78, 43, 74, 78, 73]
def e1_1 : List (BitVec 8) := [227, 118, 87, 223, 6, 66, 134, 145, 126, 213, 12, 41, 203, 111, 209, 188]
def e1_2 : List (BitVec 8) := [99, 35, 212, 169, 83, 190, 135, 211, 233, 34, 199, 210, 145, 186, 167, 114]
def e1_3 : List (BitVec 8) := [198, 194, 198, 105, 235, 69, 146, 203, 242, 205, 60, 215, 200, 27, 102, 180]
def e1_4 : List (BitVec 8) := [181, 36, 106, 21, 229, 200, 253, 105, 95, 14, 25, 189, 244, 219, 208, 51]
def e1_5 : List (BitVec 8) := [67, 241, 149, 97, 171, 180, 6, 40, 132, 46, 241, 172, 34, 120, 23, 148]
def e1_6 : List (BitVec 8) := [245, 74, 56, 211, 124, 131, 205, 25, 156, 11, 201, 188, 201, 49, 247, 156]
def e1_7 : List (BitVec 8) := [180, 117, 250, 165, 209, 131, 22, 140, 142, 250, 180, 141, 131, 146, 185, 130]
def e1_8 : List (BitVec 8) := [245, 74, 10, 74, 234, 100, 165, 15, 248, 21, 146, 24, 197, 3, 153, 19]
def e1_9 : List (BitVec 8) := [143, 128, 152, 143, 235, 157, 11, 233, 155, 83, 217, 207, 131, 204, 91, 195]
def e1_10 : List (BitVec 8) := [144, 58, 96, 81, 145, 104, 166, 219, 193, 175, 134, 93, 226, 57, 4, 202]
def e1_11 : List (BitVec 8) := [219, 20, 87, 255, 120, 190, 122, 103, 227, 164, 163, 18, 138, 243, 237, 29]
def e1_12 : List (BitVec 8) := [210, 57, 238, 212, 57, 194, 58, 213, 69, 159, 22, 30, 152, 114, 181, 77]
def e1_13 : List (BitVec 8) := [244, 92, 91, 254, 72, 11, 206, 224, 252, 39, 183, 165, 209, 105, 124, 87]
def e1_14 : List (BitVec 8) := [155, 80, 90, 70, 180, 178, 188, 156, 248, 123, 189, 172, 20, 151, 209, 45]
theorem r1_0 : encI ksE (blkN 1) 0 = e1_0 := by kernel_rfl
theorem r1_1 : encI ksE (blkN 1) 1 = e1_1 := enc_lit r1_0 (by kernel_rfl)
theorem r1_2 : encI ksE (blkN 1) 2 = e1_2 := enc_lit r1_1 (by kernel_rfl)
theorem r1_3 : encI ksE (blkN 1) 3 = e1_3 := enc_lit r1_2 (by kernel_rfl)
theorem r1_4 : encI ksE (blkN 1) 4 = e1_4 := enc_lit r1_3 (by kernel_rfl)
theorem r1_5 : encI ksE (blkN 1) 5 = e1_5 := enc_lit r1_4 (by kernel_rfl)
theorem r1_6 : encI ksE (blkN 1) 6 = e1_6 := enc_lit r1_5 (by kernel_rfl)
theorem r1_7 : encI ksE (blkN 1) 7 = e1_7 := enc_lit r1_6 (by kernel_rfl)
theorem r1_8 : encI ksE (blkN 1) 8 = e1_8 := enc_lit r1_7 (by kernel_rfl)
theorem r1_9 : encI ksE (blkN 1) 9 = e1_9 := enc_lit r1_8 (by kernel_rfl)
theorem r1_10 : encI ksE (blkN 1) 10 = e1_10 := enc_lit r1_9 (by kernel_rfl)
theorem r1_11 : encI ksE (blkN 1) 11 = e1_11 := enc_lit r1_10 (by kernel_rfl)
theorem r1_12 : encI ksE (blkN 1) 12 = e1_12 := enc_lit r1_11 (by kernel_rfl)
theorem r1_13 : encI ksE (blkN 1) 13 = e1_13 := enc_lit r1_12 (by kernel_rfl)
theorem r1_14 : encI ksE (blkN 1) 14 = e1_14 := enc_lit r1_13 (by kernel_rfl)
theorem z_eq : maskF yaE mastA = zE := by rw [maskF, show labF yaE wrapS = laE from la_eq, ks_eq, r0_14, r1_14]; kernel_rfl
def zaI : List (BitVec 8) := [200, 14, 107, 230, 48, 86, 241, 55, 240, 42, 139, 136, 197, 77, 92, 74, 86, 126, 79, 189, 206, 122, 93, 41, 242, 175, 184, 12, 59, 98, 217, 119]
def zaE : List (BitVec 8) := [122, 82, 230, 213, 93, 32, 19, 94, 207, 233, 18, 113, 183, 70, 33, 11, 199, 190, 70, 132, 135, 253, 218, 112, 72, 108, 23, 81, 18, 251, 123, 56]
theorem za_eq : hmF caE (zE) = zaE := hm_lit (i := zaI) 2 (by kernel_rfl) (by kernel_rfl) (by kernel_rfl) (by kernel_rfl)
def zbI : List (BitVec 8) := [15, 89, 115, 49, 25, 139, 227, 49, 24, 102, 15, 250, 147, 163, 110, 228, 21, 198, 99, 99, 228, 85, 186, 91, 254, 71, 198, 195, 108, 18, 46, 135]
def zbE : List (BitVec 8) := [124, 25, 12, 4, 115, 40, 240, 63, 148, 183, 7, 134, 95, 200, 13, 137, 224, 45, 70, 37, 25, 111, 194, 39, 90, 144, 119, 250, 137, 122, 73, 156]
theorem zb_eq : hmF cbE (zE) = zbE := hm_lit (i := zbI) 2 (by kernel_rfl) (by kernel_rfl) (by kernel_rfl) (by kernel_rfl)
theorem za_chk : chkF yaE zE = zaE := by rw [chkF, show labF yaE checkS = caE from ca_eq, za_eq]
theorem zb_chk : chkF ybE zE = zbE := by rw [chkF, show labF ybE checkS = cbE from cb_eq, zb_eq]
theorem dk_a : dkF [97] saltA 1 = yaE := ya_eq
theorem dk_b : dkF [98] saltA 1 = ybE := yb_eq
theorem z_a : maskF (dkF [97] saltA 1) mastA = zE := by rw [dk_a, z_eq]
theorem chk_ne : chkF (dkF [98] saltA 1) zE ≠ chkF (dkF [97] saltA 1) zE := by
  rw [dk_a, dk_b, za_chk, zb_chk]
  exact fun h => absurd (congrArg (fun l => l.getD 0 0) h) (by decide)
end Go.Proofs.YtodkhgofmgaafaaDoor.Av
