import Derived.Test.YtljkjdhkofbgmaaDoorRefA
namespace Go.Proofs.YtljkjdhkofbgmaaDoor.Av
open Go
set_option linter.all false
set_option maxRecDepth 3000

/-! the document's round keys -/
abbrev t256 : Ty := .arr 256 .cell
abbrev gB : Mem := [(gid 0, some ⟨t256, .u8s boxL, false⟩)]
abbrev t60 : Ty := .arr 60 (.arr 4 .cell)

theorem gx1 (b : BitVec 8) : (0 ≤ (b.toNat : Int) ∧ (b.toNat : Int) < ((256 : Nat) : Int)) := by
  have := b.isLt
  omega
theorem gx2 (b : BitVec 8) : ((b.toNat : Int).toNat < boxL.length ∧ True) := by
  have := b.isLt
  rw [boxL_length, Int.toNat_natCast]
  exact ⟨by omega, trivial⟩

def rtF (ws : List (List (BitVec 8))) (i : Nat) : List (BitVec 8) :=
  let t := ws.getD (i - 1) []
  if i % 8 = 0 then [sboxF (t.getD 1 0) ^^^ rpowF 2 (i / 8 - 1), sboxF (t.getD 2 0), sboxF (t.getD 3 0), sboxF (t.getD 0 0)]
  else if i % 8 = 4 then [sboxF (t.getD 0 0), sboxF (t.getD 1 0), sboxF (t.getD 2 0), sboxF (t.getD 3 0)] else t
def rkI (ws : List (List (BitVec 8))) (i : Nat) (t : List (BitVec 8)) : Nat → List (List (BitVec 8))
  | 0 => ws
  | k + 1 => (rkI ws i t k).set i (((rkI ws i t k).getD i []).set k (((rkI ws i t k).getD (i - 8) []).getD k 0 ^^^ t.getD k 0))
def rwI (key : List (BitVec 8)) : Nat → List (List (BitVec 8))
  | 0 => List.replicate 60 (List.replicate 4 0)
  | i + 1 => if i < 8 then (rwI key i).set i [key.getD (4 * i) 0, key.getD (4 * i + 1) 0, key.getD (4 * i + 2) 0, key.getD (4 * i + 3) 0]
    else rkI (rwI key i) i (rtF (rwI key i) i) 4
def roK (ws o : List (List (BitVec 8))) (i : Nat) : Nat → List (List (BitVec 8))
  | 0 => o
  | k + 1 => (roK ws o i k).set (i / 4) (((roK ws o i k).getD (i / 4) []).set (4 * (i % 4) + k) ((ws.getD i []).getD k 0))
def roI (ws : List (List (BitVec 8))) : Nat → List (List (BitVec 8))
  | 0 => List.replicate 15 (List.replicate 16 0)
  | i + 1 => roK ws (roI ws i) i 4
def rschF (key : List (BitVec 8)) : List (List (BitVec 8)) := roI (rwI key 60) 60

theorem rtF_length {ws : List (List (BitVec 8))} (h : Rows 60 4 ws) (i : Nat) (hi : i < 60) : (rtF ws i).length = 4 := by
  unfold rtF
  simp only []
  split
  · rfl
  · split
    · rfl
    · exact h.get (by omega)
theorem rkI_rows {ws : List (List (BitVec 8))} (h : Rows 60 4 ws) (i : Nat) (hi : i < 60) (t : List (BitVec 8)) : ∀ k, Rows 60 4 (rkI ws i t k)
  | 0 => h
  | k + 1 => (rkI_rows h i hi t k).set i (by rw [List.length_set]; exact (rkI_rows h i hi t k).get hi)
theorem rwI_rows (key : List (BitVec 8)) : ∀ i, i ≤ 60 → Rows 60 4 (rwI key i)
  | 0, _ => Rows.rep 60 4
  | i + 1, h => by
    have ih := rwI_rows key i (by omega)
    rw [rwI]
    split
    · exact ih.set i rfl
    · exact rkI_rows ih i (by omega) _ 4
theorem roK_rows {o : List (List (BitVec 8))} (ws : List (List (BitVec 8))) (h : Rows 15 16 o) (i : Nat) (hi : i < 60) : ∀ k, Rows 15 16 (roK ws o i k)
  | 0 => h
  | k + 1 => (roK_rows ws h i hi k).set _ (by rw [List.length_set]; exact (roK_rows ws h i hi k).get (by omega))
theorem roI_rows (ws : List (List (BitVec 8))) : ∀ i, i ≤ 60 → Rows 15 16 (roI ws i)
  | 0, _ => Rows.rep 15 16
  | i + 1, h => by rw [roI]; exact roK_rows ws (roI_rows ws i (by omega)) i (by omega) 4

theorem rsch_ac (key : List (BitVec 8)) (hk : key.length = 32) : AC Tryd.prog 28 [.u8s key] 0 gB ⟨.node ((rschF key).map .u8s), [], []⟩ := by
  refine ac_of tab mix Tryd.func28 rfl (by kernel_rfl) (by kernel_rfl) (by kernel_rfl) ⟨[12], []⟩ ?_
  repeat first | (refine EffG.mk (And.intro ?_ ?_); focus ((repeat' (first | exact trivial | refine And.intro ?_ ?_)) <;> (first | omega | (simp only [hasTy, okP, lenD, D.ren, D.isCell, Option.getD, List.length_set, List.length_take, List.length_drop, List.length_append, List.length_replicate, List.length_map, List.length_cons, List.length_nil, Option.map] <;> omega) | with_reducible assumption | with_reducible rfl | decide); done)) | (refine And.intro ?_ ?_; focus ((repeat' (first | exact trivial | refine And.intro ?_ ?_)) <;> (first | omega | (simp only [hasTy, okP, lenD, D.ren, D.isCell, Option.getD, List.length_set, List.length_take, List.length_drop, List.length_append, List.length_replicate, List.length_map, List.length_cons, List.length_nil, Option.map] <;> omega) | with_reducible assumption | with_reducible rfl | decide); done)) | refine chkG (by kernel_rfl) ?_
  refine loopG Nat (fun i => [(1, .ptr 0 []), (2, .ptr 1 []), (3, .ptr 2 []), (4, .i64 i)])
    (fun i => [(0, some ⟨t32, .u8s key, true⟩), (1, some ⟨t15, .node (List.replicate 15 (.u8s (List.replicate 16 0))), true⟩), (2, some ⟨t60, .node ((rwI key i).map .u8s), true⟩), (gid 0, some ⟨t256, .u8s boxL, false⟩)]) 3
    (fun i => i ≤ 60) (fun i => 60 - i) 0 [0, 1, 2] (Nat.zero_le _) ?_ ?_
  · exact viewG rfl ⟨rfl, rfl, rfl, rfl, trivial⟩ ⟨⟨_, rfl, rfl, rfl, id⟩, ⟨_, rfl, rfl, rfl, id⟩, ⟨_, rfl, rfl, rfl, id⟩, ⟨_, rfl, rfl, rfl, id⟩, trivial⟩ rfl
  intro i hi
  have hr := rwI_rows key i hi
  have hl : ((rwI key i).map D.u8s).length = 60 := by rw [List.length_map, hr.1]
  repeat first | (refine EffG.mk (And.intro ?_ ?_); focus ((repeat' (first | exact trivial | refine And.intro ?_ ?_)) <;> (first | omega | (simp only [hasTy, okP, lenD, D.ren, D.isCell, Option.getD, List.length_set, List.length_take, List.length_drop, List.length_append, List.length_replicate, List.length_map, List.length_cons, List.length_nil, Option.map] <;> omega) | with_reducible assumption | with_reducible rfl | decide); done)) | (refine And.intro ?_ ?_; focus ((repeat' (first | exact trivial | refine And.intro ?_ ?_)) <;> (first | omega | (simp only [hasTy, okP, lenD, D.ren, D.isCell, Option.getD, List.length_set, List.length_take, List.length_drop, List.length_append, List.length_replicate, List.length_map, List.length_cons, List.length_nil, Option.map] <;> omega) | with_reducible assumption | with_reducible rfl | decide); done)) | refine chkG (by kernel_rfl) ?_
  refine Br.split (fun h => ?_) (fun h => ?_)
  · have hi : i < 60 := by have := of_decide_eq_true h; omega
    repeat first | (refine EffG.mk (And.intro ?_ ?_); focus ((repeat' (first | exact trivial | refine And.intro ?_ ?_)) <;> (first | omega | (simp only [hasTy, okP, lenD, D.ren, D.isCell, Option.getD, List.length_set, List.length_take, List.length_drop, List.length_append, List.length_replicate, List.length_map, List.length_cons, List.length_nil, Option.map] <;> omega) | with_reducible assumption | with_reducible rfl | decide); done)) | (refine And.intro ?_ ?_; focus ((repeat' (first | exact trivial | refine And.intro ?_ ?_)) <;> (first | omega | (simp only [hasTy, okP, lenD, D.ren, D.isCell, Option.getD, List.length_set, List.length_take, List.length_drop, List.length_append, List.length_replicate, List.length_map, List.length_cons, List.length_nil, Option.map] <;> omega) | with_reducible assumption | with_reducible rfl | decide); done)) | refine chkG (by kernel_rfl) ?_
    refine Br.split (fun h => ?_) (fun h => ?_)
    · have h8 : i < 8 := by have := of_decide_eq_true h; omega
      repeat first | (refine EffG.mk (And.intro ?_ ?_); focus ((repeat' (first | exact trivial | refine And.intro ?_ ?_)) <;> (first | omega | (simp only [hasTy, okP, lenD, D.ren, D.isCell, Option.getD, List.length_set, List.length_take, List.length_drop, List.length_append, List.length_replicate, List.length_map, List.length_cons, List.length_nil, Option.map] <;> omega) | with_reducible assumption | with_reducible rfl | decide); done)) | (refine And.intro ?_ ?_; focus ((repeat' (first | exact trivial | refine And.intro ?_ ?_)) <;> (first | omega | (simp only [hasTy, okP, lenD, D.ren, D.isCell, Option.getD, List.length_set, List.length_take, List.length_drop, List.length_append, List.length_replicate, List.length_map, List.length_cons, List.length_nil, Option.map] <;> omega) | with_reducible assumption | with_reducible rfl | decide); done)) | refine chkG (by kernel_rfl) ?_
      refine nextG (i + 1) [0, 1, 2] ?_ ?_ ?_
      · omega
      · omega
      · refine viewG rfl ⟨rfl, rfl, rfl, rfl, trivial⟩ ⟨⟨_, rfl, rfl, rfl, id⟩, ⟨_, rfl, rfl, rfl, id⟩, ⟨_, rfl, rfl, ?_, id⟩, ⟨_, rfl, rfl, rfl, id⟩, trivial⟩ rfl
        rw [ren_rows, rwI, if_pos h8, List.map_set]
        rfl
    · have h8 : ¬ i < 8 := by have := of_decide_eq_false h; omega
      have q1 : (i : Int) - 1 = ((i - 1 : Nat) : Int) := by omega
      have ht0 : ((rwI key i).getD (i - 1) []).length = 4 := hr.get (by omega)
      have htl := rtF_length hr i hi
      have q4 : Int.tmod (i : Int) 8 = ((i % 8 : Nat) : Int) := (Int.ofNat_tmod i 8).symm
      have q5 : Int.tdiv (i : Int) 8 = ((i / 8 : Nat) : Int) := (Int.ofNat_tdiv i 8).symm
      repeat first | rw [q1] | (rw [nthD_u8s (l := rwI key i)]; rotate_left; (rw [hr.1]; omega)) | rw [Int.toNat_natCast (i - 1)] | (refine EffG.mk (And.intro ?_ ?_); focus ((repeat' (first | exact trivial | refine And.intro ?_ ?_)) <;> (first | omega | (simp only [hasTy, okP, lenD, D.ren, D.isCell, Option.getD, List.length_set, List.length_take, List.length_drop, List.length_append, List.length_replicate, List.length_map, List.length_cons, List.length_nil, Option.map] <;> omega) | with_reducible assumption | with_reducible rfl | decide); done)) | (refine And.intro ?_ ?_; focus ((repeat' (first | exact trivial | refine And.intro ?_ ?_)) <;> (first | omega | (simp only [hasTy, okP, lenD, D.ren, D.isCell, Option.getD, List.length_set, List.length_take, List.length_drop, List.length_append, List.length_replicate, List.length_map, List.length_cons, List.length_nil, Option.map] <;> omega) | with_reducible assumption | with_reducible rfl | decide); done)) | refine chkG (by kernel_rfl) ?_
      refine joinG Unit (fun _ => [(1, .ptr 0 []), (2, .ptr 1 []), (3, .ptr 2 []), (4, .i64 i), (5, .ptr 3 [])])
        (fun _ => [(0, some ⟨t32, .u8s key, true⟩), (1, some ⟨t15, .node (List.replicate 15 (.u8s (List.replicate 16 0))), true⟩), (2, some ⟨t60, .node ((rwI key i).map .u8s), true⟩), (3, some ⟨t4, .u8s (rtF (rwI key i) i), true⟩), (gid 0, some ⟨t256, .u8s boxL, false⟩)]) 4 (fun _ => True) ?_ ?_
      · repeat first | rw [q4] | (refine EffG.mk (And.intro ?_ ?_); focus ((repeat' (first | exact trivial | refine And.intro ?_ ?_)) <;> (first | omega | (simp only [hasTy, okP, lenD, D.ren, D.isCell, Option.getD, List.length_set, List.length_take, List.length_drop, List.length_append, List.length_replicate, List.length_map, List.length_cons, List.length_nil, Option.map] <;> omega) | with_reducible assumption | with_reducible rfl | decide); done)) | (refine And.intro ?_ ?_; focus ((repeat' (first | exact trivial | refine And.intro ?_ ?_)) <;> (first | omega | (simp only [hasTy, okP, lenD, D.ren, D.isCell, Option.getD, List.length_set, List.length_take, List.length_drop, List.length_append, List.length_replicate, List.length_map, List.length_cons, List.length_nil, Option.map] <;> omega) | with_reducible assumption | with_reducible rfl | decide); done)) | refine chkG (by kernel_rfl) ?_
        refine Br.split (fun h0 => ?_) (fun h0 => ?_)
        · have h0 : i % 8 = 0 := by have := of_decide_eq_true h0; omega
          have q6 : ((i / 8 : Nat) : Int) - 1 = ((i / 8 - 1 : Nat) : Int) := by omega
          repeat first | rw [q5] | rw [q6] | refine EffG.mk (And.intro (gx1 _) ?_) | refine EffG.mk (And.intro (gx2 _) ?_) | (refine EffG.mk (And.intro ?_ ?_); focus ((repeat' (first | exact trivial | refine And.intro ?_ ?_)) <;> (first | omega | (simp only [hasTy, okP, lenD, D.ren, D.isCell, Option.getD, List.length_set, List.length_take, List.length_drop, List.length_append, List.length_replicate, List.length_map, List.length_cons, List.length_nil, Option.map] <;> omega) | with_reducible assumption | with_reducible rfl | decide); done)) | (refine And.intro ?_ ?_; focus ((repeat' (first | exact trivial | refine And.intro ?_ ?_)) <;> (first | omega | (simp only [hasTy, okP, lenD, D.ren, D.isCell, Option.getD, List.length_set, List.length_take, List.length_drop, List.length_append, List.length_replicate, List.length_map, List.length_cons, List.length_nil, Option.map] <;> omega) | with_reducible assumption | with_reducible rfl | decide); done)) | refine chkG (by kernel_rfl) ?_
          refine callG (rpow_ac 2 (by decide) (i / 8 - 1) (by omega)) [] rfl rfl trivial rfl rfl ?_
          repeat first | refine EffG.mk (And.intro (gx1 _) ?_) | refine EffG.mk (And.intro (gx2 _) ?_) | (refine EffG.mk (And.intro ?_ ?_); focus ((repeat' (first | exact trivial | refine And.intro ?_ ?_)) <;> (first | omega | (simp only [hasTy, okP, lenD, D.ren, D.isCell, Option.getD, List.length_set, List.length_take, List.length_drop, List.length_append, List.length_replicate, List.length_map, List.length_cons, List.length_nil, Option.map] <;> omega) | with_reducible assumption | with_reducible rfl | decide); done)) | (refine And.intro ?_ ?_; focus ((repeat' (first | exact trivial | refine And.intro ?_ ?_)) <;> (first | omega | (simp only [hasTy, okP, lenD, D.ren, D.isCell, Option.getD, List.length_set, List.length_take, List.length_drop, List.length_append, List.length_replicate, List.length_map, List.length_cons, List.length_nil, Option.map] <;> omega) | with_reducible assumption | with_reducible rfl | decide); done)) | refine chkG (by kernel_rfl) ?_
          refine meetG () [0, 1, 2, 3] trivial (viewG rfl ⟨rfl, rfl, rfl, rfl, rfl, trivial⟩ ⟨⟨_, rfl, rfl, rfl, id⟩, ⟨_, rfl, rfl, rfl, id⟩, ⟨_, rfl, rfl, (ren_rows _ _).symm, id⟩, ⟨_, rfl, rfl, congrArg D.u8s ?_, id⟩, ⟨_, rfl, rfl, rfl, id⟩, trivial⟩ rfl)
          unfold rtF
          rw [if_pos h0]
          rfl
        · have h0 : ¬ i % 8 = 0 := by have := of_decide_eq_false h0; omega
          repeat first | rw [q4] | (refine EffG.mk (And.intro ?_ ?_); focus ((repeat' (first | exact trivial | refine And.intro ?_ ?_)) <;> (first | omega | (simp only [hasTy, okP, lenD, D.ren, D.isCell, Option.getD, List.length_set, List.length_take, List.length_drop, List.length_append, List.length_replicate, List.length_map, List.length_cons, List.length_nil, Option.map] <;> omega) | with_reducible assumption | with_reducible rfl | decide); done)) | (refine And.intro ?_ ?_; focus ((repeat' (first | exact trivial | refine And.intro ?_ ?_)) <;> (first | omega | (simp only [hasTy, okP, lenD, D.ren, D.isCell, Option.getD, List.length_set, List.length_take, List.length_drop, List.length_append, List.length_replicate, List.length_map, List.length_cons, List.length_nil, Option.map] <;> omega) | with_reducible assumption | with_reducible rfl | decide); done)) | refine chkG (by kernel_rfl) ?_
          refine Br.split (fun h4 => ?_) (fun h4 => ?_)
          · have h4 : i % 8 = 4 := by have := of_decide_eq_true h4; omega
            repeat first | refine EffG.mk (And.intro (gx1 _) ?_) | refine EffG.mk (And.intro (gx2 _) ?_) | (refine EffG.mk (And.intro ?_ ?_); focus ((repeat' (first | exact trivial | refine And.intro ?_ ?_)) <;> (first | omega | (simp only [hasTy, okP, lenD, D.ren, D.isCell, Option.getD, List.length_set, List.length_take, List.length_drop, List.length_append, List.length_replicate, List.length_map, List.length_cons, List.length_nil, Option.map] <;> omega) | with_reducible assumption | with_reducible rfl | decide); done)) | (refine And.intro ?_ ?_; focus ((repeat' (first | exact trivial | refine And.intro ?_ ?_)) <;> (first | omega | (simp only [hasTy, okP, lenD, D.ren, D.isCell, Option.getD, List.length_set, List.length_take, List.length_drop, List.length_append, List.length_replicate, List.length_map, List.length_cons, List.length_nil, Option.map] <;> omega) | with_reducible assumption | with_reducible rfl | decide); done)) | refine chkG (by kernel_rfl) ?_
            refine meetG () [0, 1, 2, 3] trivial (viewG rfl ⟨rfl, rfl, rfl, rfl, rfl, trivial⟩ ⟨⟨_, rfl, rfl, rfl, id⟩, ⟨_, rfl, rfl, rfl, id⟩, ⟨_, rfl, rfl, (ren_rows _ _).symm, id⟩, ⟨_, rfl, rfl, congrArg D.u8s ?_, id⟩, ⟨_, rfl, rfl, rfl, id⟩, trivial⟩ rfl)
            unfold rtF
            rw [if_neg h0, if_pos h4]
            rfl
          · have h4 : ¬ i % 8 = 4 := by have := of_decide_eq_false h4; omega
            refine meetG () [0, 1, 2, 3] trivial (viewG rfl ⟨rfl, rfl, rfl, rfl, rfl, trivial⟩ ⟨⟨_, rfl, rfl, rfl, id⟩, ⟨_, rfl, rfl, rfl, id⟩, ⟨_, rfl, rfl, (ren_rows _ _).symm, id⟩, ⟨_, rfl, rfl, congrArg D.u8s ?_, id⟩, ⟨_, rfl, rfl, rfl, id⟩, trivial⟩ rfl)
            unfold rtF
            rw [if_neg h0, if_neg h4]
      intro _ _
      have hnext : rwI key (i + 1) = rkI (rwI key i) i (rtF (rwI key i) i) 4 := by rw [rwI, if_neg h8]
      generalize rtF (rwI key i) i = t at htl hnext ⊢
      generalize rwI key i = ws at hr hl hnext ⊢
      repeat first | (refine EffG.mk (And.intro ?_ ?_); focus ((repeat' (first | exact trivial | refine And.intro ?_ ?_)) <;> (first | omega | (simp only [hasTy, okP, lenD, D.ren, D.isCell, Option.getD, List.length_set, List.length_take, List.length_drop, List.length_append, List.length_replicate, List.length_map, List.length_cons, List.length_nil, Option.map] <;> omega) | with_reducible assumption | with_reducible rfl | decide); done)) | (refine And.intro ?_ ?_; focus ((repeat' (first | exact trivial | refine And.intro ?_ ?_)) <;> (first | omega | (simp only [hasTy, okP, lenD, D.ren, D.isCell, Option.getD, List.length_set, List.length_take, List.length_drop, List.length_append, List.length_replicate, List.length_map, List.length_cons, List.length_nil, Option.map] <;> omega) | with_reducible assumption | with_reducible rfl | decide); done)) | refine chkG (by kernel_rfl) ?_
      refine loopG Nat (fun k => [(1, .ptr 0 []), (2, .ptr 1 []), (3, .ptr 2 []), (4, .i64 i), (5, .ptr 3 []), (6, .i64 k)])
        (fun k => [(0, some ⟨t32, .u8s key, true⟩), (1, some ⟨t15, .node (List.replicate 15 (.u8s (List.replicate 16 0))), true⟩), (2, some ⟨t60, .node ((rkI ws i t k).map .u8s), true⟩), (3, some ⟨t4, .u8s t, true⟩), (gid 0, some ⟨t256, .u8s boxL, false⟩)]) 4
        (fun k => k ≤ 4) (fun k => 4 - k) 0 [0, 1, 2, 3] (Nat.zero_le _) ?_ ?_
      · exact viewG rfl ⟨rfl, rfl, rfl, rfl, rfl, rfl, trivial⟩ ⟨⟨_, rfl, rfl, rfl, id⟩, ⟨_, rfl, rfl, rfl, id⟩, ⟨_, rfl, rfl, (ren_rows _ _).symm, id⟩, ⟨_, rfl, rfl, rfl, id⟩, ⟨_, rfl, rfl, rfl, id⟩, trivial⟩ rfl
      intro k hk4
      have hv := rkI_rows hr i hi t k
      repeat first | (refine EffG.mk (And.intro ?_ ?_); focus ((repeat' (first | exact trivial | refine And.intro ?_ ?_)) <;> (first | omega | (simp only [hasTy, okP, lenD, D.ren, D.isCell, Option.getD, List.length_set, List.length_take, List.length_drop, List.length_append, List.length_replicate, List.length_map, List.length_cons, List.length_nil, Option.map] <;> omega) | with_reducible assumption | with_reducible rfl | decide); done)) | (refine And.intro ?_ ?_; focus ((repeat' (first | exact trivial | refine And.intro ?_ ?_)) <;> (first | omega | (simp only [hasTy, okP, lenD, D.ren, D.isCell, Option.getD, List.length_set, List.length_take, List.length_drop, List.length_append, List.length_replicate, List.length_map, List.length_cons, List.length_nil, Option.map] <;> omega) | with_reducible assumption | with_reducible rfl | decide); done)) | refine chkG (by kernel_rfl) ?_
      refine Br.split (fun h => ?_) (fun h => ?_)
      · have hk4 : k < 4 := by have := of_decide_eq_true h; omega
        have p1 : (i : Int) - 8 = ((i - 8 : Nat) : Int) := by omega
        have hv1 : (rkI ws i t k).length = 60 := hv.1
        have hv2 : ((rkI ws i t k).getD (i - 8) []).length = 4 := hv.get (by omega)
        have hv3 : ((rkI ws i t k).getD i []).length = 4 := hv.get hi
        repeat first | rw [p1] | rw [Int.toNat_natCast] | (refine EffG.mk (And.intro ?_ ?_); focus ((repeat' (first | exact trivial | refine And.intro ?_ ?_)) <;> (first | omega | (simp only [hasTy, okP, lenD, D.ren, D.isCell, Option.getD, List.length_set, List.length_take, List.length_drop, List.length_append, List.length_replicate, List.length_map, List.length_cons, List.length_nil, Option.map] <;> omega) | with_reducible assumption | with_reducible rfl | decide); done)) | (refine And.intro ?_ ?_; focus ((repeat' (first | exact trivial | refine And.intro ?_ ?_)) <;> (first | omega | (simp only [hasTy, okP, lenD, D.ren, D.isCell, Option.getD, List.length_set, List.length_take, List.length_drop, List.length_append, List.length_replicate, List.length_map, List.length_cons, List.length_nil, Option.map] <;> omega) | with_reducible assumption | with_reducible rfl | decide); done)) | refine chkG (by kernel_rfl) ?_
        refine loadG (.u8 (((rkI ws i t k).getD (i - 8) []).getD k 0)) rfl rfl rfl rfl rfl (getP_row k (by omega)) (okP_row (by omega) (by omega)) ?_
        repeat first | rw [Int.toNat_natCast] | (refine EffG.mk (And.intro ?_ ?_); focus ((repeat' (first | exact trivial | refine And.intro ?_ ?_)) <;> (first | omega | (simp only [hasTy, okP, lenD, D.ren, D.isCell, Option.getD, List.length_set, List.length_take, List.length_drop, List.length_append, List.length_replicate, List.length_map, List.length_cons, List.length_nil, Option.map] <;> omega) | with_reducible assumption | with_reducible rfl | decide); done)) | (refine And.intro ?_ ?_; focus ((repeat' (first | exact trivial | refine And.intro ?_ ?_)) <;> (first | omega | (simp only [hasTy, okP, lenD, D.ren, D.isCell, Option.getD, List.length_set, List.length_take, List.length_drop, List.length_append, List.length_replicate, List.length_map, List.length_cons, List.length_nil, Option.map] <;> omega) | with_reducible assumption | with_reducible rfl | decide); done)) | refine chkG (by kernel_rfl) ?_
        refine storeG (.node ((rkI ws i t (k + 1)).map .u8s)) rfl rfl rfl rfl rfl rfl rfl (getP_row k (by omega)) (setP_row k _ (by omega)) (okP_row (by omega) (by omega)) rfl ?_
        repeat first | (refine EffG.mk (And.intro ?_ ?_); focus ((repeat' (first | exact trivial | refine And.intro ?_ ?_)) <;> (first | omega | (simp only [hasTy, okP, lenD, D.ren, D.isCell, Option.getD, List.length_set, List.length_take, List.length_drop, List.length_append, List.length_replicate, List.length_map, List.length_cons, List.length_nil, Option.map] <;> omega) | with_reducible assumption | with_reducible rfl | decide); done)) | (refine And.intro ?_ ?_; focus ((repeat' (first | exact trivial | refine And.intro ?_ ?_)) <;> (first | omega | (simp only [hasTy, okP, lenD, D.ren, D.isCell, Option.getD, List.length_set, List.length_take, List.length_drop, List.length_append, List.length_replicate, List.length_map, List.length_cons, List.length_nil, Option.map] <;> omega) | with_reducible assumption | with_reducible rfl | decide); done)) | refine chkG (by kernel_rfl) ?_
        refine nextG (k + 1) [0, 1, 2, 3] ?_ ?_ ?_
        · omega
        · omega
        · exact viewG rfl ⟨rfl, rfl, rfl, rfl, rfl, rfl, trivial⟩ ⟨⟨_, rfl, rfl, rfl, id⟩, ⟨_, rfl, rfl, rfl, id⟩, ⟨_, rfl, rfl, (ren_rows _ _).symm, id⟩, ⟨_, rfl, rfl, rfl, id⟩, ⟨_, rfl, rfl, rfl, id⟩, trivial⟩ rfl
      · have hk4 : k = 4 := by have := of_decide_eq_false h; omega
        subst hk4
        repeat first | (refine EffG.mk (And.intro ?_ ?_); focus ((repeat' (first | exact trivial | refine And.intro ?_ ?_)) <;> (first | omega | (simp only [hasTy, okP, lenD, D.ren, D.isCell, Option.getD, List.length_set, List.length_take, List.length_drop, List.length_append, List.length_replicate, List.length_map, List.length_cons, List.length_nil, Option.map] <;> omega) | with_reducible assumption | with_reducible rfl | decide); done)) | (refine And.intro ?_ ?_; focus ((repeat' (first | exact trivial | refine And.intro ?_ ?_)) <;> (first | omega | (simp only [hasTy, okP, lenD, D.ren, D.isCell, Option.getD, List.length_set, List.length_take, List.length_drop, List.length_append, List.length_replicate, List.length_map, List.length_cons, List.length_nil, Option.map] <;> omega) | with_reducible assumption | with_reducible rfl | decide); done)) | refine chkG (by kernel_rfl) ?_
        refine nextG (i + 1) [0, 1, 2] ?_ ?_ ?_
        · omega
        · omega
        · refine viewG rfl ⟨rfl, rfl, rfl, rfl, trivial⟩ ⟨⟨_, rfl, rfl, rfl, id⟩, ⟨_, rfl, rfl, rfl, id⟩, ⟨_, rfl, rfl, ?_, id⟩, ⟨_, rfl, rfl, rfl, id⟩, trivial⟩ rfl
          rw [ren_rows, hnext]
  · have hi : i = 60 := by have := of_decide_eq_false h; omega
    subst hi
    have hout : rschF key = roI (rwI key 60) 60 := rfl
    rw [hout]
    generalize rwI key 60 = ws at hr hl ⊢
    repeat first | (refine EffG.mk (And.intro ?_ ?_); focus ((repeat' (first | exact trivial | refine And.intro ?_ ?_)) <;> (first | omega | (simp only [hasTy, okP, lenD, D.ren, D.isCell, Option.getD, List.length_set, List.length_take, List.length_drop, List.length_append, List.length_replicate, List.length_map, List.length_cons, List.length_nil, Option.map] <;> omega) | with_reducible assumption | with_reducible rfl | decide); done)) | (refine And.intro ?_ ?_; focus ((repeat' (first | exact trivial | refine And.intro ?_ ?_)) <;> (first | omega | (simp only [hasTy, okP, lenD, D.ren, D.isCell, Option.getD, List.length_set, List.length_take, List.length_drop, List.length_append, List.length_replicate, List.length_map, List.length_cons, List.length_nil, Option.map] <;> omega) | with_reducible assumption | with_reducible rfl | decide); done)) | refine chkG (by kernel_rfl) ?_
    refine loopG Nat (fun i => [(2, .ptr 1 []), (3, .ptr 2 []), (7, .ptr 3 []), (8, .i64 i)])
      (fun i => [(1, some ⟨t15, .node (List.replicate 15 (.u8s (List.replicate 16 0))), true⟩), (2, some ⟨t60, .node (ws.map .u8s), true⟩), (3, some ⟨t15, .node ((roI ws i).map .u8s), true⟩), (gid 0, some ⟨t256, .u8s boxL, false⟩)]) 4
      (fun i => i ≤ 60) (fun i => 60 - i) 0 [0, 1, 2, 3] (Nat.zero_le _) ?_ ?_
    · exact viewG rfl ⟨rfl, rfl, rfl, rfl, trivial⟩ ⟨⟨_, rfl, rfl, rfl, id⟩, ⟨_, rfl, rfl, (ren_rows _ _).symm, id⟩, ⟨_, rfl, rfl, rfl, id⟩, ⟨_, rfl, rfl, rfl, id⟩, trivial⟩ rfl
    intro i hi
    have hq := roI_rows ws i hi
    repeat first | (refine EffG.mk (And.intro ?_ ?_); focus ((repeat' (first | exact trivial | refine And.intro ?_ ?_)) <;> (first | omega | (simp only [hasTy, okP, lenD, D.ren, D.isCell, Option.getD, List.length_set, List.length_take, List.length_drop, List.length_append, List.length_replicate, List.length_map, List.length_cons, List.length_nil, Option.map] <;> omega) | with_reducible assumption | with_reducible rfl | decide); done)) | (refine And.intro ?_ ?_; focus ((repeat' (first | exact trivial | refine And.intro ?_ ?_)) <;> (first | omega | (simp only [hasTy, okP, lenD, D.ren, D.isCell, Option.getD, List.length_set, List.length_take, List.length_drop, List.length_append, List.length_replicate, List.length_map, List.length_cons, List.length_nil, Option.map] <;> omega) | with_reducible assumption | with_reducible rfl | decide); done)) | refine chkG (by kernel_rfl) ?_
    refine Br.split (fun h => ?_) (fun h => ?_)
    · have hi : i < 60 := by have := of_decide_eq_true h; omega
      repeat first | (refine EffG.mk (And.intro ?_ ?_); focus ((repeat' (first | exact trivial | refine And.intro ?_ ?_)) <;> (first | omega | (simp only [hasTy, okP, lenD, D.ren, D.isCell, Option.getD, List.length_set, List.length_take, List.length_drop, List.length_append, List.length_replicate, List.length_map, List.length_cons, List.length_nil, Option.map] <;> omega) | with_reducible assumption | with_reducible rfl | decide); done)) | (refine And.intro ?_ ?_; focus ((repeat' (first | exact trivial | refine And.intro ?_ ?_)) <;> (first | omega | (simp only [hasTy, okP, lenD, D.ren, D.isCell, Option.getD, List.length_set, List.length_take, List.length_drop, List.length_append, List.length_replicate, List.length_map, List.length_cons, List.length_nil, Option.map] <;> omega) | with_reducible assumption | with_reducible rfl | decide); done)) | refine chkG (by kernel_rfl) ?_
      refine loopG Nat (fun k => [(2, .ptr 1 []), (3, .ptr 2 []), (7, .ptr 3 []), (8, .i64 i), (9, .i64 k)])
        (fun k => [(1, some ⟨t15, .node (List.replicate 15 (.u8s (List.replicate 16 0))), true⟩), (2, some ⟨t60, .node (ws.map .u8s), true⟩), (3, some ⟨t15, .node ((roK ws (roI ws i) i k).map .u8s), true⟩), (gid 0, some ⟨t256, .u8s boxL, false⟩)]) 4
        (fun k => k ≤ 4) (fun k => 4 - k) 0 [0, 1, 2, 3] (Nat.zero_le _) ?_ ?_
      · exact viewG rfl ⟨rfl, rfl, rfl, rfl, rfl, trivial⟩ ⟨⟨_, rfl, rfl, rfl, id⟩, ⟨_, rfl, rfl, (ren_rows _ _).symm, id⟩, ⟨_, rfl, rfl, (ren_rows _ _).symm, id⟩, ⟨_, rfl, rfl, rfl, id⟩, trivial⟩ rfl
      intro k hk4
      have hv := roK_rows ws hq i hi k
      repeat first | (refine EffG.mk (And.intro ?_ ?_); focus ((repeat' (first | exact trivial | refine And.intro ?_ ?_)) <;> (first | omega | (simp only [hasTy, okP, lenD, D.ren, D.isCell, Option.getD, List.length_set, List.length_take, List.length_drop, List.length_append, List.length_replicate, List.length_map, List.length_cons, List.length_nil, Option.map] <;> omega) | with_reducible assumption | with_reducible rfl | decide); done)) | (refine And.intro ?_ ?_; focus ((repeat' (first | exact trivial | refine And.intro ?_ ?_)) <;> (first | omega | (simp only [hasTy, okP, lenD, D.ren, D.isCell, Option.getD, List.length_set, List.length_take, List.length_drop, List.length_append, List.length_replicate, List.length_map, List.length_cons, List.length_nil, Option.map] <;> omega) | with_reducible assumption | with_reducible rfl | decide); done)) | refine chkG (by kernel_rfl) ?_
      refine Br.split (fun h => ?_) (fun h => ?_)
      · have hk4 : k < 4 := by have := of_decide_eq_true h; omega
        have q4 : Int.tmod (i : Int) 4 = ((i % 4 : Nat) : Int) := (Int.ofNat_tmod i 4).symm
        have q5 : Int.tdiv (i : Int) 4 = ((i / 4 : Nat) : Int) := (Int.ofNat_tdiv i 4).symm
        have q6 : 4 * ((i % 4 : Nat) : Int) + (k : Int) = ((4 * (i % 4) + k : Nat) : Int) := by omega
        have hr1 : ws.length = 60 := hr.1
        have hr2 : (ws.getD i []).length = 4 := hr.get hi
        have hv1 : (roK ws (roI ws i) i k).length = 15 := hv.1
        have hv2 : ((roK ws (roI ws i) i k).getD (i / 4) []).length = 16 := hv.get (by omega)
        repeat first | rw [q4] | rw [q5] | rw [q6] | rw [Int.toNat_natCast] | (refine EffG.mk (And.intro ?_ ?_); focus (rw [q5]; (repeat' (first | exact trivial | refine And.intro ?_ ?_)) <;> (first | omega | (simp only [hasTy, okP, lenD, D.ren, D.isCell, Option.getD, List.length_set, List.length_take, List.length_drop, List.length_append, List.length_replicate, List.length_map, List.length_cons, List.length_nil, Option.map] <;> omega) | with_reducible assumption | with_reducible rfl | decide); done)) | (refine EffG.mk (And.intro ?_ ?_); focus ((repeat' (first | exact trivial | refine And.intro ?_ ?_)) <;> (first | omega | (simp only [hasTy, okP, lenD, D.ren, D.isCell, Option.getD, List.length_set, List.length_take, List.length_drop, List.length_append, List.length_replicate, List.length_map, List.length_cons, List.length_nil, Option.map] <;> omega) | with_reducible assumption | with_reducible rfl | decide); done)) | (refine And.intro ?_ ?_; focus ((repeat' (first | exact trivial | refine And.intro ?_ ?_)) <;> (first | omega | (simp only [hasTy, okP, lenD, D.ren, D.isCell, Option.getD, List.length_set, List.length_take, List.length_drop, List.length_append, List.length_replicate, List.length_map, List.length_cons, List.length_nil, Option.map] <;> omega) | with_reducible assumption | with_reducible rfl | decide); done)) | refine chkG (by kernel_rfl) ?_
        refine loadG (.u8 ((ws.getD i []).getD k 0)) rfl rfl rfl rfl rfl (getP_row k (by omega)) (okP_row (by omega) (by omega)) ?_
        repeat first | rw [Int.toNat_natCast] | (refine EffG.mk (And.intro ?_ ?_); focus ((repeat' (first | exact trivial | refine And.intro ?_ ?_)) <;> (first | omega | (simp only [hasTy, okP, lenD, D.ren, D.isCell, Option.getD, List.length_set, List.length_take, List.length_drop, List.length_append, List.length_replicate, List.length_map, List.length_cons, List.length_nil, Option.map] <;> omega) | with_reducible assumption | with_reducible rfl | decide); done)) | (refine And.intro ?_ ?_; focus ((repeat' (first | exact trivial | refine And.intro ?_ ?_)) <;> (first | omega | (simp only [hasTy, okP, lenD, D.ren, D.isCell, Option.getD, List.length_set, List.length_take, List.length_drop, List.length_append, List.length_replicate, List.length_map, List.length_cons, List.length_nil, Option.map] <;> omega) | with_reducible assumption | with_reducible rfl | decide); done)) | refine chkG (by kernel_rfl) ?_
        refine storeG (.node ((roK ws (roI ws i) i (k + 1)).map .u8s)) rfl rfl rfl rfl rfl rfl rfl (getP_row (4 * (i % 4) + k) (by omega)) (setP_row (4 * (i % 4) + k) _ (by omega)) (okP_row (by omega) (by omega)) rfl ?_
        repeat first | (refine EffG.mk (And.intro ?_ ?_); focus ((repeat' (first | exact trivial | refine And.intro ?_ ?_)) <;> (first | omega | (simp only [hasTy, okP, lenD, D.ren, D.isCell, Option.getD, List.length_set, List.length_take, List.length_drop, List.length_append, List.length_replicate, List.length_map, List.length_cons, List.length_nil, Option.map] <;> omega) | with_reducible assumption | with_reducible rfl | decide); done)) | (refine And.intro ?_ ?_; focus ((repeat' (first | exact trivial | refine And.intro ?_ ?_)) <;> (first | omega | (simp only [hasTy, okP, lenD, D.ren, D.isCell, Option.getD, List.length_set, List.length_take, List.length_drop, List.length_append, List.length_replicate, List.length_map, List.length_cons, List.length_nil, Option.map] <;> omega) | with_reducible assumption | with_reducible rfl | decide); done)) | refine chkG (by kernel_rfl) ?_
        refine nextG (k + 1) [0, 1, 2, 3] ?_ ?_ ?_
        · omega
        · omega
        · exact viewG rfl ⟨rfl, rfl, rfl, rfl, rfl, trivial⟩ ⟨⟨_, rfl, rfl, rfl, id⟩, ⟨_, rfl, rfl, (ren_rows _ _).symm, id⟩, ⟨_, rfl, rfl, (ren_rows _ _).symm, id⟩, ⟨_, rfl, rfl, rfl, id⟩, trivial⟩ rfl
      · have hk4 : k = 4 := by have := of_decide_eq_false h; omega
        subst hk4
        repeat first | (refine EffG.mk (And.intro ?_ ?_); focus ((repeat' (first | exact trivial | refine And.intro ?_ ?_)) <;> (first | omega | (simp only [hasTy, okP, lenD, D.ren, D.isCell, Option.getD, List.length_set, List.length_take, List.length_drop, List.length_append, List.length_replicate, List.length_map, List.length_cons, List.length_nil, Option.map] <;> omega) | with_reducible assumption | with_reducible rfl | decide); done)) | (refine And.intro ?_ ?_; focus ((repeat' (first | exact trivial | refine And.intro ?_ ?_)) <;> (first | omega | (simp only [hasTy, okP, lenD, D.ren, D.isCell, Option.getD, List.length_set, List.length_take, List.length_drop, List.length_append, List.length_replicate, List.length_map, List.length_cons, List.length_nil, Option.map] <;> omega) | with_reducible assumption | with_reducible rfl | decide); done)) | refine chkG (by kernel_rfl) ?_
        refine nextG (i + 1) [0, 1, 2, 3] ?_ ?_ ?_
        · omega
        · omega
        · refine viewG rfl ⟨rfl, rfl, rfl, rfl, trivial⟩ ⟨⟨_, rfl, rfl, rfl, id⟩, ⟨_, rfl, rfl, (ren_rows _ _).symm, id⟩, ⟨_, rfl, rfl, ?_, id⟩, ⟨_, rfl, rfl, rfl, id⟩, trivial⟩ rfl
          rw [ren_rows, roI]
    · have hi : i = 60 := by have := of_decide_eq_false h; omega
      subst hi
      generalize roI ws 60 = o at hq ⊢
      repeat first | (refine EffG.mk (And.intro ?_ ?_); focus ((repeat' (first | exact trivial | refine And.intro ?_ ?_)) <;> (first | omega | (simp only [hasTy, okP, lenD, D.ren, D.isCell, Option.getD, List.length_set, List.length_take, List.length_drop, List.length_append, List.length_replicate, List.length_map, List.length_cons, List.length_nil, Option.map] <;> omega) | with_reducible assumption | with_reducible rfl | decide); done)) | (refine And.intro ?_ ?_; focus ((repeat' (first | exact trivial | refine And.intro ?_ ?_)) <;> (first | omega | (simp only [hasTy, okP, lenD, D.ren, D.isCell, Option.getD, List.length_set, List.length_take, List.length_drop, List.length_append, List.length_replicate, List.length_map, List.length_cons, List.length_nil, Option.map] <;> omega) | with_reducible assumption | with_reducible rfl | decide); done)) | refine chkG (by kernel_rfl) ?_
      refine EffG.mk (And.intro ⟨trivial, hq.ty⟩ ?_)
      repeat first | (refine EffG.mk (And.intro ?_ ?_); focus ((repeat' (first | exact trivial | refine And.intro ?_ ?_)) <;> (first | omega | (simp only [hasTy, okP, lenD, D.ren, D.isCell, Option.getD, List.length_set, List.length_take, List.length_drop, List.length_append, List.length_replicate, List.length_map, List.length_cons, List.length_nil, Option.map] <;> omega) | with_reducible assumption | with_reducible rfl | decide); done)) | (refine And.intro ?_ ?_; focus ((repeat' (first | exact trivial | refine And.intro ?_ ?_)) <;> (first | omega | (simp only [hasTy, okP, lenD, D.ren, D.isCell, Option.getD, List.length_set, List.length_take, List.length_drop, List.length_append, List.length_replicate, List.length_map, List.length_cons, List.length_nil, Option.map] <;> omega) | with_reducible assumption | with_reducible rfl | decide); done)) | refine chkG (by kernel_rfl) ?_
      refine retG [] ?_ rfl ⟨⟨_, rfl, rfl, rfl, id⟩, trivial⟩ rfl
      exact congrArg D.node (rens_u8s _ _).symm
end Go.Proofs.YtljkjdhkofbgmaaDoor.Av
