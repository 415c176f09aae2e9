import Derived.Test.YtljkjdhkofbgmaaDoorM4
import Derived.Test.YtljkjdhkofbgmaaDoorM3
namespace Go.Proofs.YtljkjdhkofbgmaaDoor.Av
open Go
set_option linter.all false
set_option maxRecDepth 3000

/-! the document's round keys -/
abbrev t256 : Ty := .arr 256 .cell
abbrev gB : Mem := [(gid 0, some ⟨t256, .u8s boxL, false⟩)]
abbrev t60 : Ty := .arr 60 (.arr 4 .cell)

theorem gx1 (b : BitVec 8) : (0 ≤ (b.toNat : Int) ∧ (b.toNat : Int) < ((256 : Nat) : Int)) := by
  have := b.isLt
  omega
theorem gx2 (b : BitVec 8) : ((b.toNat : Int).toNat < boxL.length ∧ True) := by
  have := b.isLt
  rw [boxL_length, Int.toNat_natCast]
  exact ⟨by omega, trivial⟩

def rtF (ws : List (List (BitVec 8))) (i : Nat) : List (BitVec 8) :=
  let t := ws.getD (i - 1) []
  if i % 8 = 0 then [sboxF (t.getD 1 0) ^^^ rpowF 2 (i / 8 - 1), sboxF (t.getD 2 0), sboxF (t.getD 3 0), sboxF (t.getD 0 0)]
  else if i % 8 = 4 then [sboxF (t.getD 0 0), sboxF (t.getD 1 0), sboxF (t.getD 2 0), sboxF (t.getD 3 0)] else t
def rkI (ws : List (List (BitVec 8))) (i : Nat) (t : List (BitVec 8)) : Nat → List (List (BitVec 8))
  | 0 => ws
  | k + 1 => (rkI ws i t k).set i (((rkI ws i t k).getD i []).set k (((rkI ws i t k).getD (i - 8) []).getD k 0 ^^^ t.getD k 0))
def rwI (key : List (BitVec 8)) : Nat → List (List (BitVec 8))
  | 0 => List.replicate 60 (List.replicate 4 0)
  | i + 1 => if i < 8 then (rwI key i).set i [key.getD (4 * i) 0, key.getD (4 * i + 1) 0, key.getD (4 * i + 2) 0, key.getD (4 * i + 3) 0]
    else rkI (rwI key i) i (rtF (rwI key i) i) 4
def roK (ws o : List (List (BitVec 8))) (i : Nat) : Nat → List (List (BitVec 8))
  | 0 => o
  | k + 1 => (roK ws o i k).set (i / 4) (((roK ws o i k).getD (i / 4) []).set (4 * (i % 4) + k) ((ws.getD i []).getD k 0))
def roI (ws : List (List (BitVec 8))) : Nat → List (List (BitVec 8))
  | 0 => List.replicate 15 (List.replicate 16 0)
  | i + 1 => roK ws (roI ws i) i 4
def rschF (key : List (BitVec 8)) : List (List (BitVec 8)) := roI (rwI key 60) 60

theorem rtF_length {ws : List (List (BitVec 8))} (h : Rows 60 4 ws) (i : Nat) (hi : i < 60) : (rtF ws i).length = 4 := by
  unfold rtF
  simp only []
  split
  · rfl
  · split
    · rfl
    · exact h.get (by omega)
theorem rkI_rows {ws : List (List (BitVec 8))} (h : Rows 60 4 ws) (i : Nat) (hi : i < 60) (t : List (BitVec 8)) : ∀ k, Rows 60 4 (rkI ws i t k)
  | 0 => h
  | k + 1 => (rkI_rows h i hi t k).set i (by rw [List.length_set]; exact (rkI_rows h i hi t k).get hi)
theorem rwI_rows (key : List (BitVec 8)) : ∀ i, i ≤ 60 → Rows 60 4 (rwI key i)
  | 0, _ => Rows.rep 60 4
  | i + 1, h => by
    have ih := rwI_rows key i (by omega)
    rw [rwI]
    split
    · exact ih.set i rfl
    · exact rkI_rows ih i (by omega) _ 4
theorem roK_rows {o : List (List (BitVec 8))} (ws : List (List (BitVec 8))) (h : Rows 15 16 o) (i : Nat) (hi : i < 60) : ∀ k, Rows 15 16 (roK ws o i k)
  | 0 => h
  | k + 1 => (roK_rows ws h i hi k).set _ (by rw [List.length_set]; exact (roK_rows ws h i hi k).get (by omega))
theorem roI_rows (ws : List (List (BitVec 8))) : ∀ i, i ≤ 60 → Rows 15 16 (roI ws i)
  | 0, _ => Rows.rep 15 16
  | i + 1, h => by rw [roI]; exact roK_rows ws (roI_rows ws i (by omega)) i (by omega) 4

theorem rsch_ac (key : List (BitVec 8)) (hk : key.length = 32) : AC Tryd.prog 28 [.u8s key] 0 gB ⟨.node ((rschF key).map .u8s), [], []⟩ := by
  refine ac_of tab mix Tryd.func28 rfl (by kernel_rfl) (by kernel_rfl) (by kernel_rfl) ⟨[12], []⟩ ?_
  repeat first | (refine EffG.mk (And.intro ?_ ?_); focus ((repeat' (first | exact trivial | refine And.intro ?_ ?_)) <;> (first | omega | (simp only [hasTy, okP, lenD, D.ren, D.isCell, Option.getD, List.length_set, List.length_take, List.length_drop, List.length_append, List.length_replicate, List.length_map, List.length_cons, List.length_nil, Option.map] <;> omega) | with_reducible assumption | with_reducible rfl | decide); done)) | (refine And.intro ?_ ?_; focus ((repeat' (first | exact trivial | refine And.intro ?_ ?_)) <;> (first | omega | (simp only [hasTy, okP, lenD, D.ren, D.isCell, Option.getD, List.length_set, List.length_take, List.length_drop, List.length_append, List.length_replicate, List.length_map, List.length_cons, List.length_nil, Option.map] <;> omega) | with_reducible assumption | with_reducible rfl | decide); done)) | refine chkG (by kernel_rfl) ?_
  refine loopG Nat (fun i => [(1, .ptr 0 []), (2, .ptr 1 []), (3, .ptr 2 []), (4, .i64 i)])
    (fun i => [(0, some ⟨t32, .u8s key, true⟩), (1, some ⟨t15, .node (List.replicate 15 (.u8s (List.replicate 16 0))), true⟩), (2, some ⟨t60, .node ((rwI key i).map .u8s), true⟩), (gid 0, some ⟨t256, .u8s boxL, false⟩)]) 3
    (fun i => i ≤ 60) (fun i => 60 - i) 0 [0, 1, 2] (Nat.zero_le _) ?_ ?_
  · exact viewG rfl ⟨rfl, rfl, rfl, rfl, trivial⟩ ⟨⟨_, rfl, rfl, rfl, id⟩, ⟨_, rfl, rfl, rfl, id⟩, ⟨_, rfl, rfl, rfl, id⟩, ⟨_, rfl, rfl, rfl, id⟩, trivial⟩ rfl
  intro i hi
  have hr := rwI_rows key i hi
  have hl : ((rwI key i).map D.u8s).length = 60 := by rw [List.length_map, hr.1]
  repeat first | (refine EffG.mk (And.intro ?_ ?_); focus ((repeat' (first | exact trivial | refine And.intro ?_ ?_)) <;> (first | omega | (simp only [hasTy, okP, lenD, D.ren, D.isCell, Option.getD, List.length_set, List.length_take, List.length_drop, List.length_append, List.length_replicate, List.length_map, List.length_cons, List.length_nil, Option.map] <;> omega) | with_reducible assumption | with_reducible rfl | decide); done)) | (refine And.intro ?_ ?_; focus ((repeat' (first | exact trivial | refine And.intro ?_ ?_)) <;> (first | omega | (simp only [hasTy, okP, lenD, D.ren, D.isCell, Option.getD, List.length_set, List.length_take, List.length_drop, List.length_append, List.length_replicate, List.length_map, List.length_cons, List.length_nil, Option.map] <;> omega) | with_reducible assumption | with_reducible rfl | decide); done)) | refine chkG (by kernel_rfl) ?_
  refine Br.split (fun h => ?_) (fun h => ?_)
  · have hi : i < 60 := by have := of_decide_eq_true h; omega
    repeat first | (refine EffG.mk (And.intro ?_ ?_); focus ((repeat' (first | exact trivial | refine And.intro ?_ ?_)) <;> (first | omega | (simp only [hasTy, okP, lenD, D.ren, D.isCell, Option.getD, List.length_set, List.length_take, List.length_drop, List.length_append, List.length_replicate, List.length_map, List.length_cons, List.length_nil, Option.map] <;> omega) | with_reducible assumption | with_reducible rfl | decide); done)) | (refine And.intro ?_ ?_; focus ((repeat' (first | exact trivial | refine And.intro ?_ ?_)) <;> (first | omega | (simp only [hasTy, okP, lenD, D.ren, D.isCell, Option.getD, List.length_set, List.length_take, List.length_drop, List.length_append, List.length_replicate, List.length_map, List.length_cons, List.length_nil, Option.map] <;> omega) | with_reducible assumption | with_reducible rfl | decide); done)) | refine chkG (by kernel_rfl) ?_
    refine Br.split (fun h => ?_) (fun h => ?_)
    · have h8 : i < 8 := by have := of_decide_eq_true h; omega
      repeat first | (refine EffG.mk (And.intro ?_ ?_); focus ((repeat' (first | exact trivial | refine And.intro ?_ ?_)) <;> (first | omega | (simp only [hasTy, okP, lenD, D.ren, D.isCell, Option.getD, List.length_set, List.length_take, List.length_drop, List.length_append, List.length_replicate, List.length_map, List.length_cons, List.length_nil, Option.map] <;> omega) | with_reducible assumption | with_reducible rfl | decide); done)) | (refine And.intro ?_ ?_; focus ((repeat' (first | exact trivial | refine And.intro ?_ ?_)) <;> (first | omega | (simp only [hasTy, okP, lenD, D.ren, D.isCell, Option.getD, List.length_set, List.length_take, List.length_drop, List.length_append, List.length_replicate, List.length_map, List.length_cons, List.length_nil, Option.map] <;> omega) | with_reducible assumption | with_reducible rfl | decide); done)) | refine chkG (by kernel_rfl) ?_
      refine nextG (i + 1) [0, 1, 2] ?_ ?_ ?_
      · omega
      · omega
      · refine viewG rfl ⟨rfl, rfl, rfl, rfl, trivial⟩ ⟨⟨_, rfl, rfl, rfl, id⟩, ⟨_, rfl, rfl, rfl, id⟩, ⟨_, rfl, rfl, ?_, id⟩, ⟨_, rfl, rfl, rfl, id⟩, trivial⟩ rfl
        rw [ren_rows, rwI, if_pos h8, List.map_set]
        rfl
    · have h8 : ¬ i < 8 := by have := of_decide_eq_false h; omega
      have q1 : (i : Int) - 1 = ((i - 1 : Nat) : Int) := by omega
      have ht0 : ((rwI key i).getD (i - 1) []).length = 4 := hr.get (by omega)
      have htl := rtF_length hr i hi
      have q4 : Int.tmod (i : Int) 8 = ((i % 8 : Nat) : Int) := (Int.ofNat_tmod i 8).symm
      have q5 : Int.tdiv (i : Int) 8 = ((i / 8 : Nat) : Int) := (Int.ofNat_tdiv i 8).symm
      repeat first | rw [q1] | (rw [nthD_u8s (l := rwI key i)]; rotate_left; (rw [hr.1]; omega)) | rw [Int.toNat_natCast (i - 1)] | (refine EffG.mk (And.intro ?_ ?_); focus ((repeat' (first | exact trivial | refine And.intro ?_ ?_)) <;> (first | omega | (simp only [hasTy, okP, lenD, D.ren, D.isCell, Option.getD, List.length_set, List.length_take, List.length_drop, List.length_append, List.length_replicate, List.length_map, List.length_cons, List.length_nil, Option.map] <;> omega) | with_reducible assumption | with_reducible rfl | decide); done)) | (refine And.intro ?_ ?_; focus ((repeat' (first | exact trivial | refine And.intro ?_ ?_)) <;> (first | omega | (simp only [hasTy, okP, lenD, D.ren, D.isCell, Option.getD, List.length_set, List.length_take, List.length_drop, List.length_append, List.length_replicate, List.length_map, List.length_cons, List.length_nil, Option.map] <;> omega) | with_reducible assumption | with_reducible rfl | decide); done)) | refine chkG (by kernel_rfl) ?_
      refine joinG Unit (fun _ => [(1, .ptr 0 []), (2, .ptr 1 []), (3, .ptr 2 []), (4, .i64 i), (5, .ptr 3 [])])
        (fun _ => [(0, some ⟨t32, .u8s key, true⟩), (1, some ⟨t15, .node (List.replicate 15 (.u8s (List.replicate 16 0))), true⟩), (2, some ⟨t60, .node ((rwI key i).map .u8s), true⟩), (3, some ⟨t4, .u8s (rtF (rwI key i) i), true⟩), (gid 0, some ⟨t256, .u8s boxL, false⟩)]) 4 (fun _ => True) ?_ ?_
      · repeat first | rw [q4] | (refine EffG.mk (And.intro ?_ ?_); focus ((repeat' (first | exact trivial | refine And.intro ?_ ?_)) <;> (first | omega | (simp only [hasTy, okP, lenD, D.ren, D.isCell, Option.getD, List.length_set, List.length_take, List.length_drop, List.length_append, List.length_replicate, List.length_map, List.length_cons, List.length_nil, Option.map] <;> omega) | with_reducible assumption | with_reducible rfl | decide); done)) | (refine And.intro ?_ ?_; focus ((repeat' (first | exact trivial | refine And.intro ?_ ?_)) <;> (first | omega | (simp only [hasTy, okP, lenD, D.ren, D.isCell, Option.getD, List.length_set, List.length_take, List.length_drop, List.length_append, List.length_replicate, List.length_map, List.length_cons, List.length_nil, Option.map] <;> omega) | with_reducible assumption | with_reducible rfl | decide); done)) | refine chkG (by kernel_rfl) ?_
        refine Br.split (fun h0 => ?_) (fun h0 => ?_)
        · have h0 : i % 8 = 0 := by have := of_decide_eq_true h0; omega
          have q6 : ((i / 8 : Nat) : Int) - 1 = ((i / 8 - 1 : Nat) : Int) := by omega
          repeat first | rw [q5] | rw [q6] | refine EffG.mk (And.intro (gx1 _) ?_) | refine EffG.mk (And.intro (gx2 _) ?_) | (refine EffG.mk (And.intro ?_ ?_); focus ((repeat' (first | exact trivial | refine And.intro ?_ ?_)) <;> (first | omega | (simp only [hasTy, okP, lenD, D.ren, D.isCell, Option.getD, List.length_set, List.length_take, List.length_drop, List.length_append, List.length_replicate, List.length_map, List.length_cons, List.length_nil, Option.map] <;> omega) | with_reducible assumption | with_reducible rfl | decide); done)) | (refine And.intro ?_ ?_; focus ((repeat' (first | exact trivial | refine And.intro ?_ ?_)) <;> (first | omega | (simp only [hasTy, okP, lenD, D.ren, D.isCell, Option.getD, List.length_set, List.length_take, List.length_drop, List.length_append, List.length_replicate, List.length_map, List.length_cons, List.length_nil, Option.map] <;> omega) | with_reducible assumption | with_reducible rfl | decide); done)) | refine chkG (by kernel_rfl) ?_
          refine callG (rpow_ac 2 (by decide) (i / 8 - 1) (by omega)) [] rfl rfl trivial rfl rfl ?_
          repeat first | refine EffG.mk (And.intro (gx1 _) ?_) | refine EffG.mk (And.intro (gx2 _) ?_) | (refine EffG.mk (And.intro ?_ ?_); focus ((repeat' (first | exact trivial | refine And.intro ?_ ?_)) <;> (first | omega | (simp only [hasTy, okP, lenD, D.ren, D.isCell, Option.getD, List.length_set, List.length_take, List.length_drop, List.length_append, List.length_replicate, List.length_map, List.length_cons, List.length_nil, Option.map] <;> omega) | with_reducible assumption | with_reducible rfl | decide); done)) | (refine And.intro ?_ ?_; focus ((repeat' (first | exact trivial | refine And.intro ?_ ?_)) <;> (first | omega | (simp only [hasTy, okP, lenD, D.ren, D.isCell, Option.getD, List.length_set, List.length_take, List.length_drop, List.length_append, List.length_replicate, List.length_map, List.length_cons, List.length_nil, Option.map] <;> omega) | with_reducible assumption | with_reducible rfl | decide); done)) | refine chkG (by kernel_rfl) ?_
          refine meetG () [0, 1, 2, 3] trivial (viewG rfl ⟨rfl, rfl, rfl, rfl, rfl, trivial⟩ ⟨⟨_, rfl, rfl, rfl, id⟩, ⟨_, rfl, rfl, rfl, id⟩, ⟨_, rfl, rfl, (ren_rows _ _).symm, id⟩, ⟨_, rfl, rfl, congrArg D.u8s ?_, id⟩, ⟨_, rfl, rfl, rfl, id⟩, trivial⟩ rfl)
          unfold rtF
          rw [if_pos h0]
          rfl
        · have h0 : ¬ i % 8 = 0 := by have := of_decide_eq_false h0; omega
          repeat first | rw [q4] | (refine EffG.mk (And.intro ?_ ?_); focus ((repeat' (first | exact trivial | refine And.intro ?_ ?_)) <;> (first | omega | (simp only [hasTy, okP, lenD, D.ren, D.isCell, Option.getD, List.length_set, List.length_take, List.length_drop, List.length_append, List.length_replicate, List.length_map, List.length_cons, List.length_nil, Option.map] <;> omega) | with_reducible assumption | with_reducible rfl | decide); done)) | (refine And.intro ?_ ?_; focus ((repeat' (first | exact trivial | refine And.intro ?_ ?_)) <;> (first | omega | (simp only [hasTy, okP, lenD, D.ren, D.isCell, Option.getD, List.length_set, List.length_take, List.length_drop, List.length_append, List.length_replicate, List.length_map, List.length_cons, List.length_nil, Option.map] <;> omega) | with_reducible assumption | with_reducible rfl | decide); done)) | refine chkG (by kernel_rfl) ?_
          refine Br.split (fun h4 => ?_) (fun h4 => ?_)
          · have h4 : i % 8 = 4 := by have := of_decide_eq_true h4; omega
            repeat first | refine EffG.mk (And.intro (gx1 _) ?_) | refine EffG.mk (And.intro (gx2 _) ?_) | (refine EffG.mk (And.intro ?_ ?_); focus ((repeat' (first | exact trivial | refine And.intro ?_ ?_)) <;> (first | omega | (simp only [hasTy, okP, lenD, D.ren, D.isCell, Option.getD, List.length_set, List.length_take, List.length_drop, List.length_append, List.length_replicate, List.length_map, List.length_cons, List.length_nil, Option.map] <;> omega) | with_reducible assumption | with_reducible rfl | decide); done)) | (refine And.intro ?_ ?_; focus ((repeat' (first | exact trivial | refine And.intro ?_ ?_)) <;> (first | omega | (simp only [hasTy, okP, lenD, D.ren, D.isCell, Option.getD, List.length_set, List.length_take, List.length_drop, List.length_append, List.length_replicate, List.length_map, List.length_cons, List.length_nil, Option.map] <;> omega) | with_reducible assumption | with_reducible rfl | decide); done)) | refine chkG (by kernel_rfl) ?_
            refine meetG () [0, 1, 2, 3] trivial (viewG rfl ⟨rfl, rfl, rfl, rfl, rfl, trivial⟩ ⟨⟨_, rfl, rfl, rfl, id⟩, ⟨_, rfl, rfl, rfl, id⟩, ⟨_, rfl, rfl, (ren_rows _ _).symm, id⟩, ⟨_, rfl, rfl, congrArg D.u8s ?_, id⟩, ⟨_, rfl, rfl, rfl, id⟩, trivial⟩ rfl)
            unfold rtF
            rw [if_neg h0, if_pos h4]
            rfl
          · have h4 : ¬ i % 8 = 4 := by have := of_decide_eq_false h4; omega
            refine meetG () [0, 1, 2, 3] trivial (viewG rfl ⟨rfl, rfl, rfl, rfl, rfl, trivial⟩ ⟨⟨_, rfl, rfl, rfl, id⟩, ⟨_, rfl, rfl, rfl, id⟩, ⟨_, rfl, rfl, (ren_rows _ _).symm, id⟩, ⟨_, rfl, rfl, congrArg D.u8s ?_, id⟩, ⟨_, rfl, rfl, rfl, id⟩, trivial⟩ rfl)
            unfold rtF
            rw [if_neg h0, if_neg h4]
      intro _ _
      have hnext : rwI key (i + 1) = rkI (rwI key i) i (rtF (rwI key i) i) 4 := by rw [rwI, if_neg h8]
      generalize rtF (rwI key i) i = t at htl hnext ⊢
      generalize rwI key i = ws at hr hl hnext ⊢
      repeat first | (refine EffG.mk (And.intro ?_ ?_); focus ((repeat' (first | exact trivial | refine And.intro ?_ ?_)) <;> (first | omega | (simp only [hasTy, okP, lenD, D.ren, D.isCell, Option.getD, List.length_set, List.length_take, List.length_drop, List.length_append, List.length_replicate, List.length_map, List.length_cons, List.length_nil, Option.map] <;> omega) | with_reducible assumption | with_reducible rfl | decide); done)) | (refine And.intro ?_ ?_; focus ((repeat' (first | exact trivial | refine And.intro ?_ ?_)) <;> (first | omega | (simp only [hasTy, okP, lenD, D.ren, D.isCell, Option.getD, List.length_set, List.length_take, List.length_drop, List.length_append, List.length_replicate, List.length_map, List.length_cons, List.length_nil, Option.map] <;> omega) | with_reducible assumption | with_reducible rfl | decide); done)) | refine chkG (by kernel_rfl) ?_
      refine loopG Nat (fun k => [(1, .ptr 0 []), (2, .ptr 1 []), (3, .ptr 2 []), (4, .i64 i), (5, .ptr 3 []), (6, .i64 k)])
        (fun k => [(0, some ⟨t32, .u8s key, true⟩), (1, some ⟨t15, .node (List.replicate 15 (.u8s (List.replicate 16 0))), true⟩), (2, some ⟨t60, .node ((rkI ws i t k).map .u8s), true⟩), (3, some ⟨t4, .u8s t, true⟩), (gid 0, some ⟨t256, .u8s boxL, false⟩)]) 4
        (fun k => k ≤ 4) (fun k => 4 - k) 0 [0, 1, 2, 3] (Nat.zero_le _) ?_ ?_
      · exact viewG rfl ⟨rfl, rfl, rfl, rfl, rfl, rfl, trivial⟩ ⟨⟨_, rfl, rfl, rfl, id⟩, ⟨_, rfl, rfl, rfl, id⟩, ⟨_, rfl, rfl, (ren_rows _ _).symm, id⟩, ⟨_, rfl, rfl, rfl, id⟩, ⟨_, rfl, rfl, rfl, id⟩, trivial⟩ rfl
      intro k hk4
      have hv := rkI_rows hr i hi t k
      repeat first | (refine EffG.mk (And.intro ?_ ?_); focus ((repeat' (first | exact trivial | refine And.intro ?_ ?_)) <;> (first | omega | (simp only [hasTy, okP, lenD, D.ren, D.isCell, Option.getD, List.length_set, List.length_take, List.length_drop, List.length_append, List.length_replicate, List.length_map, List.length_cons, List.length_nil, Option.map] <;> omega) | with_reducible assumption | with_reducible rfl | decide); done)) | (refine And.intro ?_ ?_; focus ((repeat' (first | exact trivial | refine And.intro ?_ ?_)) <;> (first | omega | (simp only [hasTy, okP, lenD, D.ren, D.isCell, Option.getD, List.length_set, List.length_take, List.length_drop, List.length_append, List.length_replicate, List.length_map, List.length_cons, List.length_nil, Option.map] <;> omega) | with_reducible assumption | with_reducible rfl | decide); done)) | refine chkG (by kernel_rfl) ?_
      refine Br.split (fun h => ?_) (fun h => ?_)
      · have hk4 : k < 4 := by have := of_decide_eq_true h; omega
        have p1 : (i : Int) - 8 = ((i - 8 : Nat) : Int) := by omega
        have hv1 : (rkI ws i t k).length = 60 := hv.1
        have hv2 : ((rkI ws i t k).getD (i - 8) []).length = 4 := hv.get (by omega)
        have hv3 : ((rkI ws i t k).getD i []).length = 4 := hv.get hi
        repeat first | rw [p1] | rw [Int.toNat_natCast] | (refine EffG.mk (And.intro ?_ ?_); focus ((repeat' (first | exact trivial | refine And.intro ?_ ?_)) <;> (first | omega | (simp only [hasTy, okP, lenD, D.ren, D.isCell, Option.getD, List.length_set, List.length_take, List.length_drop, List.length_append, List.length_replicate, List.length_map, List.length_cons, List.length_nil, Option.map] <;> omega) | with_reducible assumption | with_reducible rfl | decide); done)) | (refine And.intro ?_ ?_; focus ((repeat' (first | exact trivial | refine And.intro ?_ ?_)) <;> (first | omega | (simp only [hasTy, okP, lenD, D.ren, D.isCell, Option.getD, List.length_set, List.length_take, List.length_drop, List.length_append, List.length_replicate, List.length_map, List.length_cons, List.length_nil, Option.map] <;> omega) | with_reducible assumption | with_reducible rfl | decide); done)) | refine chkG (by kernel_rfl) ?_
        refine loadG (.u8 (((rkI ws i t k).getD (i - 8) []).getD k 0)) rfl rfl rfl rfl rfl (getP_row k (by omega)) (okP_row (by omega) (by omega)) ?_
        repeat first | rw [Int.toNat_natCast] | (refine EffG.mk (And.intro ?_ ?_); focus ((repeat' (first | exact trivial | refine And.intro ?_ ?_)) <;> (first | omega | (simp only [hasTy, okP, lenD, D.ren, D.isCell, Option.getD, List.length_set, List.length_take, List.length_drop, List.length_append, List.length_replicate, List.length_map, List.length_cons, List.length_nil, Option.map] <;> omega) | with_reducible assumption | with_reducible rfl | decide); done)) | (refine And.intro ?_ ?_; focus ((repeat' (first | exact trivial | refine And.intro ?_ ?_)) <;> (first | omega | (simp only [hasTy, okP, lenD, D.ren, D.isCell, Option.getD, List.length_set, List.length_take, List.length_drop, List.length_append, List.length_replicate, List.length_map, List.length_cons, List.length_nil, Option.map] <;> omega) | with_reducible assumption | with_reducible rfl | decide); done)) | refine chkG (by kernel_rfl) ?_
        refine storeG (.node ((rkI ws i t (k + 1)).map .u8s)) rfl rfl rfl rfl rfl rfl rfl (getP_row k (by omega)) (setP_row k _ (by omega)) (okP_row (by omega) (by omega)) rfl ?_
        repeat first | (refine EffG.mk (And.intro ?_ ?_); focus ((repeat' (first | exact trivial | refine And.intro ?_ ?_)) <;> (first | omega | (simp only [hasTy, okP, lenD, D.ren, D.isCell, Option.getD, List.length_set, List.length_take, List.length_drop, List.length_append, List.length_replicate, List.length_map, List.length_cons, List.length_nil, Option.map] <;> omega) | with_reducible assumption | with_reducible rfl | decide); done)) | (refine And.intro ?_ ?_; focus ((repeat' (first | exact trivial | refine And.intro ?_ ?_)) <;> (first | omega | (simp only [hasTy, okP, lenD, D.ren, D.isCell, Option.getD, List.length_set, List.length_take, List.length_drop, List.length_append, List.length_replicate, List.length_map, List.length_cons, List.length_nil, Option.map] <;> omega) | with_reducible assumption | with_reducible rfl | decide); done)) | refine chkG (by kernel_rfl) ?_
        refine nextG (k + 1) [0, 1, 2, 3] ?_ ?_ ?_
        · omega
        · omega
        · exact viewG rfl ⟨rfl, rfl, rfl, rfl, rfl, rfl, trivial⟩ ⟨⟨_, rfl, rfl, rfl, id⟩, ⟨_, rfl, rfl, rfl, id⟩, ⟨_, rfl, rfl, (ren_rows _ _).symm, id⟩, ⟨_, rfl, rfl, rfl, id⟩, ⟨_, rfl, rfl, rfl, id⟩, trivial⟩ rfl
      · have hk4 : k = 4 := by have := of_decide_eq_false h; omega
        subst hk4
        repeat first | (refine EffG.mk (And.intro ?_ ?_); focus ((repeat' (first | exact trivial | refine And.intro ?_ ?_)) <;> (first | omega | (simp only [hasTy, okP, lenD, D.ren, D.isCell, Option.getD, List.length_set, List.length_take, List.length_drop, List.length_append, List.length_replicate, List.length_map, List.length_cons, List.length_nil, Option.map] <;> omega) | with_reducible assumption | with_reducible rfl | decide); done)) | (refine And.intro ?_ ?_; focus ((repeat' (first | exact trivial | refine And.intro ?_ ?_)) <;> (first | omega | (simp only [hasTy, okP, lenD, D.ren, D.isCell, Option.getD, List.length_set, List.length_take, List.length_drop, List.length_append, List.length_replicate, List.length_map, List.length_cons, List.length_nil, Option.map] <;> omega) | with_reducible assumption | with_reducible rfl | decide); done)) | refine chkG (by kernel_rfl) ?_
        refine nextG (i + 1) [0, 1, 2] ?_ ?_ ?_
        · omega
        · omega
        · refine viewG rfl ⟨rfl, rfl, rfl, rfl, trivial⟩ ⟨⟨_, rfl, rfl, rfl, id⟩, ⟨_, rfl, rfl, rfl, id⟩, ⟨_, rfl, rfl, ?_, id⟩, ⟨_, rfl, rfl, rfl, id⟩, trivial⟩ rfl
          rw [ren_rows, hnext]
  · have hi : i = 60 := by have := of_decide_eq_false h; omega
    subst hi
    have hout : rschF key = roI (rwI key 60) 60 := rfl
    rw [hout]
    generalize rwI key 60 = ws at hr hl ⊢
    repeat first | (refine EffG.mk (And.intro ?_ ?_); focus ((repeat' (first | exact trivial | refine And.intro ?_ ?_)) <;> (first | omega | (simp only [hasTy, okP, lenD, D.ren, D.isCell, Option.getD, List.length_set, List.length_take, List.length_drop, List.length_append, List.length_replicate, List.length_map, List.length_cons, List.length_nil, Option.map] <;> omega) | with_reducible assumption | with_reducible rfl | decide); done)) | (refine And.intro ?_ ?_; focus ((repeat' (first | exact trivial | refine And.intro ?_ ?_)) <;> (first | omega | (simp only [hasTy, okP, lenD, D.ren, D.isCell, Option.getD, List.length_set, List.length_take, List.length_drop, List.length_append, List.length_replicate, List.length_map, List.length_cons, List.length_nil, Option.map] <;> omega) | with_reducible assumption | with_reducible rfl | decide); done)) | refine chkG (by kernel_rfl) ?_
    refine loopG Nat (fun i => [(2, .ptr 1 []), (3, .ptr 2 []), (7, .ptr 3 []), (8, .i64 i)])
      (fun i => [(1, some ⟨t15, .node (List.replicate 15 (.u8s (List.replicate 16 0))), true⟩), (2, some ⟨t60, .node (ws.map .u8s), true⟩), (3, some ⟨t15, .node ((roI ws i).map .u8s), true⟩), (gid 0, some ⟨t256, .u8s boxL, false⟩)]) 4
      (fun i => i ≤ 60) (fun i => 60 - i) 0 [0, 1, 2, 3] (Nat.zero_le _) ?_ ?_
    · exact viewG rfl ⟨rfl, rfl, rfl, rfl, trivial⟩ ⟨⟨_, rfl, rfl, rfl, id⟩, ⟨_, rfl, rfl, (ren_rows _ _).symm, id⟩, ⟨_, rfl, rfl, rfl, id⟩, ⟨_, rfl, rfl, rfl, id⟩, trivial⟩ rfl
    intro i hi
    have hq := roI_rows ws i hi
    repeat first | (refine EffG.mk (And.intro ?_ ?_); focus ((repeat' (first | exact trivial | refine And.intro ?_ ?_)) <;> (first | omega | (simp only [hasTy, okP, lenD, D.ren, D.isCell, Option.getD, List.length_set, List.length_take, List.length_drop, List.length_append, List.length_replicate, List.length_map, List.length_cons, List.length_nil, Option.map] <;> omega) | with_reducible assumption | with_reducible rfl | decide); done)) | (refine And.intro ?_ ?_; focus ((repeat' (first | exact trivial | refine And.intro ?_ ?_)) <;> (first | omega | (simp only [hasTy, okP, lenD, D.ren, D.isCell, Option.getD, List.length_set, List.length_take, List.length_drop, List.length_append, List.length_replicate, List.length_map, List.length_cons, List.length_nil, Option.map] <;> omega) | with_reducible assumption | with_reducible rfl | decide); done)) | refine chkG (by kernel_rfl) ?_
    refine Br.split (fun h => ?_) (fun h => ?_)
    · have hi : i < 60 := by have := of_decide_eq_true h; omega
      repeat first | (refine EffG.mk (And.intro ?_ ?_); focus ((repeat' (first | exact trivial | refine And.intro ?_ ?_)) <;> (first | omega | (simp only [hasTy, okP, lenD, D.ren, D.isCell, Option.getD, List.length_set, List.length_take, List.length_drop, List.length_append, List.length_replicate, List.length_map, List.length_cons, List.length_nil, Option.map] <;> omega) | with_reducible assumption | with_reducible rfl | decide); done)) | (refine And.intro ?_ ?_; focus ((repeat' (first | exact trivial | refine And.intro ?_ ?_)) <;> (first | omega | (simp only [hasTy, okP, lenD, D.ren, D.isCell, Option.getD, List.length_set, List.length_take, List.length_drop, List.length_append, List.length_replicate, List.length_map, List.length_cons, List.length_nil, Option.map] <;> omega) | with_reducible assumption | with_reducible rfl | decide); done)) | refine chkG (by kernel_rfl) ?_
      refine loopG Nat (fun k => [(2, .ptr 1 []), (3, .ptr 2 []), (7, .ptr 3 []), (8, .i64 i), (9, .i64 k)])
        (fun k => [(1, some ⟨t15, .node (List.replicate 15 (.u8s (List.replicate 16 0))), true⟩), (2, some ⟨t60, .node (ws.map .u8s), true⟩), (3, some ⟨t15, .node ((roK ws (roI ws i) i k).map .u8s), true⟩), (gid 0, some ⟨t256, .u8s boxL, false⟩)]) 4
        (fun k => k ≤ 4) (fun k => 4 - k) 0 [0, 1, 2, 3] (Nat.zero_le _) ?_ ?_
      · exact viewG rfl ⟨rfl, rfl, rfl, rfl, rfl, trivial⟩ ⟨⟨_, rfl, rfl, rfl, id⟩, ⟨_, rfl, rfl, (ren_rows _ _).symm, id⟩, ⟨_, rfl, rfl, (ren_rows _ _).symm, id⟩, ⟨_, rfl, rfl, rfl, id⟩, trivial⟩ rfl
      intro k hk4
      have hv := roK_rows ws hq i hi k
      repeat first | (refine EffG.mk (And.intro ?_ ?_); focus ((repeat' (first | exact trivial | refine And.intro ?_ ?_)) <;> (first | omega | (simp only [hasTy, okP, lenD, D.ren, D.isCell, Option.getD, List.length_set, List.length_take, List.length_drop, List.length_append, List.length_replicate, List.length_map, List.length_cons, List.length_nil, Option.map] <;> omega) | with_reducible assumption | with_reducible rfl | decide); done)) | (refine And.intro ?_ ?_; focus ((repeat' (first | exact trivial | refine And.intro ?_ ?_)) <;> (first | omega | (simp only [hasTy, okP, lenD, D.ren, D.isCell, Option.getD, List.length_set, List.length_take, List.length_drop, List.length_append, List.length_replicate, List.length_map, List.length_cons, List.length_nil, Option.map] <;> omega) | with_reducible assumption | with_reducible rfl | decide); done)) | refine chkG (by kernel_rfl) ?_
      refine Br.split (fun h => ?_) (fun h => ?_)
      · have hk4 : k < 4 := by have := of_decide_eq_true h; omega
        have q4 : Int.tmod (i : Int) 4 = ((i % 4 : Nat) : Int) := (Int.ofNat_tmod i 4).symm
        have q5 : Int.tdiv (i : Int) 4 = ((i / 4 : Nat) : Int) := (Int.ofNat_tdiv i 4).symm
        have q6 : 4 * ((i % 4 : Nat) : Int) + (k : Int) = ((4 * (i % 4) + k : Nat) : Int) := by omega
        have hr1 : ws.length = 60 := hr.1
        have hr2 : (ws.getD i []).length = 4 := hr.get hi
        have hv1 : (roK ws (roI ws i) i k).length = 15 := hv.1
        have hv2 : ((roK ws (roI ws i) i k).getD (i / 4) []).length = 16 := hv.get (by omega)
        repeat first | rw [q4] | rw [q5] | rw [q6] | rw [Int.toNat_natCast] | (refine EffG.mk (And.intro ?_ ?_); focus (rw [q5]; (repeat' (first | exact trivial | refine And.intro ?_ ?_)) <;> (first | omega | (simp only [hasTy, okP, lenD, D.ren, D.isCell, Option.getD, List.length_set, List.length_take, List.length_drop, List.length_append, List.length_replicate, List.length_map, List.length_cons, List.length_nil, Option.map] <;> omega) | with_reducible assumption | with_reducible rfl | decide); done)) | (refine EffG.mk (And.intro ?_ ?_); focus ((repeat' (first | exact trivial | refine And.intro ?_ ?_)) <;> (first | omega | (simp only [hasTy, okP, lenD, D.ren, D.isCell, Option.getD, List.length_set, List.length_take, List.length_drop, List.length_append, List.length_replicate, List.length_map, List.length_cons, List.length_nil, Option.map] <;> omega) | with_reducible assumption | with_reducible rfl | decide); done)) | (refine And.intro ?_ ?_; focus ((repeat' (first | exact trivial | refine And.intro ?_ ?_)) <;> (first | omega | (simp only [hasTy, okP, lenD, D.ren, D.isCell, Option.getD, List.length_set, List.length_take, List.length_drop, List.length_append, List.length_replicate, List.length_map, List.length_cons, List.length_nil, Option.map] <;> omega) | with_reducible assumption | with_reducible rfl | decide); done)) | refine chkG (by kernel_rfl) ?_
        refine loadG (.u8 ((ws.getD i []).getD k 0)) rfl rfl rfl rfl rfl (getP_row k (by omega)) (okP_row (by omega) (by omega)) ?_
        repeat first | rw [Int.toNat_natCast] | (refine EffG.mk (And.intro ?_ ?_); focus ((repeat' (first | exact trivial | refine And.intro ?_ ?_)) <;> (first | omega | (simp only [hasTy, okP, lenD, D.ren, D.isCell, Option.getD, List.length_set, List.length_take, List.length_drop, List.length_append, List.length_replicate, List.length_map, List.length_cons, List.length_nil, Option.map] <;> omega) | with_reducible assumption | with_reducible rfl | decide); done)) | (refine And.intro ?_ ?_; focus ((repeat' (first | exact trivial | refine And.intro ?_ ?_)) <;> (first | omega | (simp only [hasTy, okP, lenD, D.ren, D.isCell, Option.getD, List.length_set, List.length_take, List.length_drop, List.length_append, List.length_replicate, List.length_map, List.length_cons, List.length_nil, Option.map] <;> omega) | with_reducible assumption | with_reducible rfl | decide); done)) | refine chkG (by kernel_rfl) ?_
        refine storeG (.node ((roK ws (roI ws i) i (k + 1)).map .u8s)) rfl rfl rfl rfl rfl rfl rfl (getP_row (4 * (i % 4) + k) (by omega)) (setP_row (4 * (i % 4) + k) _ (by omega)) (okP_row (by omega) (by omega)) rfl ?_
        repeat first | (refine EffG.mk (And.intro ?_ ?_); focus ((repeat' (first | exact trivial | refine And.intro ?_ ?_)) <;> (first | omega | (simp only [hasTy, okP, lenD, D.ren, D.isCell, Option.getD, List.length_set, List.length_take, List.length_drop, List.length_append, List.length_replicate, List.length_map, List.length_cons, List.length_nil, Option.map] <;> omega) | with_reducible assumption | with_reducible rfl | decide); done)) | (refine And.intro ?_ ?_; focus ((repeat' (first | exact trivial | refine And.intro ?_ ?_)) <;> (first | omega | (simp only [hasTy, okP, lenD, D.ren, D.isCell, Option.getD, List.length_set, List.length_take, List.length_drop, List.length_append, List.length_replicate, List.length_map, List.length_cons, List.length_nil, Option.map] <;> omega) | with_reducible assumption | with_reducible rfl | decide); done)) | refine chkG (by kernel_rfl) ?_
        refine nextG (k + 1) [0, 1, 2, 3] ?_ ?_ ?_
        · omega
        · omega
        · exact viewG rfl ⟨rfl, rfl, rfl, rfl, rfl, trivial⟩ ⟨⟨_, rfl, rfl, rfl, id⟩, ⟨_, rfl, rfl, (ren_rows _ _).symm, id⟩, ⟨_, rfl, rfl, (ren_rows _ _).symm, id⟩, ⟨_, rfl, rfl, rfl, id⟩, trivial⟩ rfl
      · have hk4 : k = 4 := by have := of_decide_eq_false h; omega
        subst hk4
        repeat first | (refine EffG.mk (And.intro ?_ ?_); focus ((repeat' (first | exact trivial | refine And.intro ?_ ?_)) <;> (first | omega | (simp only [hasTy, okP, lenD, D.ren, D.isCell, Option.getD, List.length_set, List.length_take, List.length_drop, List.length_append, List.length_replicate, List.length_map, List.length_cons, List.length_nil, Option.map] <;> omega) | with_reducible assumption | with_reducible rfl | decide); done)) | (refine And.intro ?_ ?_; focus ((repeat' (first | exact trivial | refine And.intro ?_ ?_)) <;> (first | omega | (simp only [hasTy, okP, lenD, D.ren, D.isCell, Option.getD, List.length_set, List.length_take, List.length_drop, List.length_append, List.length_replicate, List.length_map, List.length_cons, List.length_nil, Option.map] <;> omega) | with_reducible assumption | with_reducible rfl | decide); done)) | refine chkG (by kernel_rfl) ?_
        refine nextG (i + 1) [0, 1, 2, 3] ?_ ?_ ?_
        · omega
        · omega
        · refine viewG rfl ⟨rfl, rfl, rfl, rfl, trivial⟩ ⟨⟨_, rfl, rfl, rfl, id⟩, ⟨_, rfl, rfl, (ren_rows _ _).symm, id⟩, ⟨_, rfl, rfl, ?_, id⟩, ⟨_, rfl, rfl, rfl, id⟩, trivial⟩ rfl
          rw [ren_rows, roI]
    · have hi : i = 60 := by have := of_decide_eq_false h; omega
      subst hi
      generalize roI ws 60 = o at hq ⊢
      repeat first | (refine EffG.mk (And.intro ?_ ?_); focus ((repeat' (first | exact trivial | refine And.intro ?_ ?_)) <;> (first | omega | (simp only [hasTy, okP, lenD, D.ren, D.isCell, Option.getD, List.length_set, List.length_take, List.length_drop, List.length_append, List.length_replicate, List.length_map, List.length_cons, List.length_nil, Option.map] <;> omega) | with_reducible assumption | with_reducible rfl | decide); done)) | (refine And.intro ?_ ?_; focus ((repeat' (first | exact trivial | refine And.intro ?_ ?_)) <;> (first | omega | (simp only [hasTy, okP, lenD, D.ren, D.isCell, Option.getD, List.length_set, List.length_take, List.length_drop, List.length_append, List.length_replicate, List.length_map, List.length_cons, List.length_nil, Option.map] <;> omega) | with_reducible assumption | with_reducible rfl | decide); done)) | refine chkG (by kernel_rfl) ?_
      refine EffG.mk (And.intro ⟨trivial, hq.ty⟩ ?_)
      repeat first | (refine EffG.mk (And.intro ?_ ?_); focus ((repeat' (first | exact trivial | refine And.intro ?_ ?_)) <;> (first | omega | (simp only [hasTy, okP, lenD, D.ren, D.isCell, Option.getD, List.length_set, List.length_take, List.length_drop, List.length_append, List.length_replicate, List.length_map, List.length_cons, List.length_nil, Option.map] <;> omega) | with_reducible assumption | with_reducible rfl | decide); done)) | (refine And.intro ?_ ?_; focus ((repeat' (first | exact trivial | refine And.intro ?_ ?_)) <;> (first | omega | (simp only [hasTy, okP, lenD, D.ren, D.isCell, Option.getD, List.length_set, List.length_take, List.length_drop, List.length_append, List.length_replicate, List.length_map, List.length_cons, List.length_nil, Option.map] <;> omega) | with_reducible assumption | with_reducible rfl | decide); done)) | refine chkG (by kernel_rfl) ?_
      refine retG [] ?_ rfl ⟨⟨_, rfl, rfl, rfl, id⟩, trivial⟩ rfl
      exact congrArg D.node (rens_u8s _ _).symm
end Go.Proofs.YtljkjdhkofbgmaaDoor.Av

namespace Go.Proofs.YtljkjdhkofbgmaaDoor.Av
open Go
set_option linter.all false
set_option maxRecDepth 3000

/-! the document's round keys are the program's: with no program in sight -/

theorem rndJ_eq : ∀ m, rndJ m = rndI m
  | 0 => rfl
  | m + 1 => by rw [rndJ, rndI, rndJ_eq m]

theorem rkI_row {ws : List (List (BitVec 8))} (h : Rows 60 4 ws) (i : Nat) (h8 : 8 ≤ i) (hi : i < 60) (t : List (BitVec 8)) : ∀ k, k ≤ 4 →
    (∀ j, j ≠ i → (rkI ws i t k).getD j [] = ws.getD j []) ∧ ∀ m, m < k → ((rkI ws i t k).getD i []).getD m 0 = (ws.getD (i - 8) []).getD m 0 ^^^ t.getD m 0
  | 0, _ => ⟨fun _ _ => rfl, fun m hm => by omega⟩
  | k + 1, hk => by
    obtain ⟨h1, h2⟩ := rkI_row h i h8 hi t k (by omega)
    have hr := rkI_rows h i hi t k
    have hl := hr.1
    have hl2 := hr.get hi
    refine ⟨fun j hj => ?_, fun m hm => ?_⟩
    · rw [rkI, getD_set (by omega), if_neg hj, h1 j hj]
    · rw [rkI, getD_set (by omega), if_pos rfl, getD_set (by omega)]
      by_cases e : m = k
      · subst e
        rw [if_pos rfl, h1 (i - 8) (by omega)]
      · rw [if_neg e]
        exact h2 m (by omega)

theorem rwI_step (key : List (BitVec 8)) (i j : Nat) (hi : i < 60) (hj : j ≠ i) : (rwI key (i + 1)).getD j [] = (rwI key i).getD j [] := by
  have hr := rwI_rows key i (by omega)
  have hl := hr.1
  rw [rwI]
  split
  · rw [getD_set (by omega), if_neg hj]
  · exact (rkI_row hr i (by omega) hi _ 4 (Nat.le_refl _)).1 j hj
theorem rwI_stay (key : List (BitVec 8)) (i j : Nat) (hj : j < i) : ∀ d, i + d ≤ 60 → (rwI key (i + d)).getD j [] = (rwI key i).getD j []
  | 0, _ => rfl
  | d + 1, h => by
    rw [← Nat.add_assoc, rwI_step key (i + d) j (by omega) (by omega)]
    exact rwI_stay key i j hj d (by omega)
theorem rwI_at (key : List (BitVec 8)) (i j : Nat) (hj : j < i) (hi : i ≤ 60) : (rwI key 60).getD j [] = (rwI key i).getD j [] := by
  have := rwI_stay key i j hj (60 - i) (by omega)
  rwa [show i + (60 - i) = 60 by omega] at this

theorem rw_flat (key : List (BitVec 8)) (hk : key.length = 32) : ∀ i, i < 60 → ∀ k, k < 4 → ((rwI key 60).getD i []).getD k 0 = (schedI key 52).1.getD (4 * i + k) 0 := by
  intro i
  induction i using Nat.strongRecOn with
  | _ i ih =>
    intro hi k hk4
    have hr := rwI_rows key i (by omega)
    have hl := hr.1
    rw [rwI_at key (i + 1) i (by omega) (by omega), rwI]
    by_cases h8 : i < 8
    · rw [if_pos h8, getD_set (by omega), if_pos rfl, flat_key key hk (4 * i + k) (by omega)]
      rcases (by omega : k = 0 ∨ k = 1 ∨ k = 2 ∨ k = 3) with rfl | rfl | rfl | rfl <;> rfl
    · rw [if_neg h8, (rkI_row hr i (by omega) hi _ 4 (Nat.le_refl _)).2 k hk4, ← rwI_at key i (i - 8) (by omega) (by omega), ih (i - 8) (by omega) (by omega) k hk4]
      obtain ⟨n, rfl⟩ : ∃ n, i = 8 + n := ⟨i - 8, by omega⟩
      have hn : n < 52 := by omega
      have e1 : 4 * (8 + n) + k = 32 + 4 * n + k := by omega
      have e2 : 4 * (8 + n - 8) + k = 4 * n + k := by omega
      rw [e1, e2, flat_word key hk n k hn hk4]
      have ht : ∀ m, m < 4 → ((rwI key (8 + n)).getD (8 + n - 1) []).getD m 0 = (schedI key 52).1.getD (28 + 4 * n + m) 0 := fun m hm => by
        rw [← rwI_at key (8 + n) (8 + n - 1) (by omega) (by omega), ih (8 + n - 1) (by omega) (by omega) m hm]
        congr 1
        omega
      have w0 := (flat_w key hk n 0 hn (by omega)).trans (ht 0 (by omega)).symm
      have w1 := (flat_w key hk n 1 hn (by omega)).trans (ht 1 (by omega)).symm
      have w2 := (flat_w key hk n 2 hn (by omega)).trans (ht 2 (by omega)).symm
      have w3 := (flat_w key hk n 3 hn (by omega)).trans (ht 3 (by omega)).symm
      have wk := (flat_w key hk n k hn hk4).trans (ht k hk4).symm
      congr 1
      rw [schedI_round]
      unfold rtF wordF
      simp only [w0, w1, w2, w3]
      have e3 : (8 + n) % 8 = n % 8 := by omega
      have e4 : n % 8 = 0 → (n + 7) / 8 = (8 + n) / 8 - 1 := by omega
      rw [e3]
      by_cases h0 : n % 8 = 0
      · rw [if_pos h0, if_pos h0, e4 h0, rpow_rnd _ (by omega), rndJ_eq]
      · rw [if_neg h0, if_neg h0]
        by_cases h4 : n % 8 = 4
        · rw [if_pos h4, if_pos h4]
        · rw [if_neg h4, if_neg h4, wk]

theorem roK_row {o : List (List (BitVec 8))} (ws : List (List (BitVec 8))) (h : Rows 15 16 o) (i : Nat) (hi : i < 60) : ∀ k, k ≤ 4 → ∀ j m, j < 15 → m < 16 →
    ((roK ws o i k).getD j []).getD m 0 = if 4 * i ≤ 16 * j + m ∧ 16 * j + m < 4 * i + k then (ws.getD i []).getD (m % 4) 0 else (o.getD j []).getD m 0
  | 0, _, j, m, _, _ => by rw [if_neg (by omega)]; rfl
  | k + 1, hk, j, m, hj, hm => by
    have hr := roK_rows ws h i hi k
    have hl := hr.1
    have hl2 : ((roK ws o i k).getD (i / 4) []).length = 16 := hr.get (by omega)
    have ih := roK_row ws h i hi k (by omega) j m hj hm
    rw [roK, getD_set (by omega)]
    by_cases hji : j = i / 4
    · rw [if_pos hji, getD_set (by omega)]
      by_cases hmk : m = 4 * (i % 4) + k
      · rw [if_pos hmk, if_pos (by omega), show m % 4 = k by omega]
      · rw [if_neg hmk, ← hji, ih]
        by_cases hc : 4 * i ≤ 16 * j + m ∧ 16 * j + m < 4 * i + k
        · rw [if_pos hc, if_pos (by omega)]
        · rw [if_neg hc, if_neg (by omega)]
    · rw [if_neg hji, ih]
      by_cases hc : 4 * i ≤ 16 * j + m ∧ 16 * j + m < 4 * i + k
      · rw [if_pos hc, if_pos (by omega)]
      · rw [if_neg hc, if_neg (by omega)]

theorem roI_row (ws : List (List (BitVec 8))) : ∀ i, i ≤ 60 → ∀ j m, j < 15 → m < 16 → 16 * j + m < 4 * i → ((roI ws i).getD j []).getD m 0 = (ws.getD ((16 * j + m) / 4) []).getD (m % 4) 0
  | 0, _, j, m, _, _, h => by omega
  | i + 1, hi, j, m, hj, hm, h => by
    rw [roI, roK_row ws (roI_rows ws i (by omega)) i (by omega) 4 (Nat.le_refl _) j m hj hm]
    by_cases hc : 4 * i ≤ 16 * j + m ∧ 16 * j + m < 4 * i + 4
    · rw [if_pos hc, show (16 * j + m) / 4 = i by omega]
    · rw [if_neg hc]
      exact roI_row ws i (by omega) j m hj hm (by omega)

theorem rows_ext {n m : Nat} {a b : List (List (BitVec 8))} (ha : Rows n m a) (hb : Rows n m b) (h : ∀ i, i < n → ∀ k, k < m → (a.getD i []).getD k 0 = (b.getD i []).getD k 0) : a = b := by
  refine List.ext_getElem (ha.1.trans hb.1.symm) fun i h1 h2 => ?_
  have hi : i < n := by rw [← ha.1]; exact h1
  have e1 : a[i] = a.getD i [] := by rw [List.getD_eq_getElem?_getD, List.getElem?_eq_getElem h1]; rfl
  have e2 : b[i] = b.getD i [] := by rw [List.getD_eq_getElem?_getD, List.getElem?_eq_getElem h2]; rfl
  rw [e1, e2]
  refine ext_getD ((ha.get hi).trans (hb.get hi).symm) fun k hk => h i hi k (by rw [← ha.get hi]; exact hk)

theorem rschF_rows (key : List (BitVec 8)) : Rows 15 16 (rschF key) := by
  unfold rschF
  exact roI_rows (rwI key 60) 60 (Nat.le_refl 60)
theorem rschF_at (key : List (BitVec 8)) (j m : Nat) (hj : j < 15) (hm : m < 16) : ((rschF key).getD j []).getD m 0 = ((rwI key 60).getD ((16 * j + m) / 4) []).getD (m % 4) 0 := by
  unfold rschF
  exact roI_row (rwI key 60) 60 (Nat.le_refl 60) j m hj hm (by omega)

theorem rsch_eq (key : List (BitVec 8)) (hk : key.length = 32) : rschF key = schedF key := by
  have h2 : Rows 15 16 (schedF key) := ⟨schedF_length key, schedF_lens key hk⟩
  refine rows_ext (rschF_rows key) h2 fun j hj m hm => ?_
  have e := keys_at key (16 * j + m) (by omega)
  have e1 : (16 * j + m) / 16 = j := by omega
  have e2 : (16 * j + m) % 16 = m := by omega
  have e3 : 4 * ((16 * j + m) / 4) + m % 4 = 16 * j + m := by omega
  have e4 := rw_flat key hk ((16 * j + m) / 4) (by omega) (m % 4) (by omega)
  rw [e3] at e4
  rw [e1, e2] at e
  exact (rschF_at key j m hj hm).trans (e4.trans e.symm)
end Go.Proofs.YtljkjdhkofbgmaaDoor.Av

namespace Go.Proofs.YtljkjdhkofbgmaaDoor.Av
open Go
set_option linter.all false
set_option maxRecDepth 3000

/-! the document's way to encrypt -/
/-- bytes laid one by one: at the places ix 0, ix 1, .. the values v 0, v 1, .. -/
def setsI (ix : Nat → Nat) (v : Nat → BitVec 8) (s : List (BitVec 8)) : Nat → List (BitVec 8)
  | 0 => s
  | n + 1 => (setsI ix v s n).set (ix n) (v n)
theorem setsI_length (ix : Nat → Nat) (v : Nat → BitVec 8) (s : List (BitVec 8)) : ∀ n, (setsI ix v s n).length = s.length
  | 0 => rfl
  | n + 1 => by rw [setsI, List.length_set, setsI_length ix v s n]

def rsubV (s : List (BitVec 8)) (n : Nat) : BitVec 8 := sboxF (s.getD (4 * ((n / 4 + n % 4) % 4) + n % 4) 0)
def rmixV (t : List (BitVec 8)) (n : Nat) : BitVec 8 :=
  shiftF (t.getD (4 * (n / 4) + n % 4) 0) ^^^ shiftF (t.getD (4 * (n / 4) + (n % 4 + 1) % 4) 0) ^^^ t.getD (4 * (n / 4) + (n % 4 + 1) % 4) 0 ^^^ t.getD (4 * (n / 4) + (n % 4 + 2) % 4) 0 ^^^ t.getD (4 * (n / 4) + (n % 4 + 3) % 4) 0
def rsubF (s : List (BitVec 8)) : List (BitVec 8) := setsI id (rsubV s) (List.replicate 16 0) 16
def rmixF (t : List (BitVec 8)) : List (BitVec 8) := setsI id (rmixV t) t 16
def rencI (ks : List (List (BitVec 8))) (b : List (BitVec 8)) : Nat → List (BitVec 8)
  | 0 => xorF b (ks.getD 0 [])
  | n + 1 => xorF (if n + 1 < 14 then rmixF (rsubF (rencI ks b n)) else rsubF (rencI ks b n)) (ks.getD (n + 1) [])
theorem rsubF_length (s : List (BitVec 8)) : (rsubF s).length = 16 := setsI_length _ _ _ 16
theorem rmixF_length (s : List (BitVec 8)) : (rmixF s).length = s.length := setsI_length _ _ _ 16
theorem rencI_length (ks : List (List (BitVec 8))) (b : List (BitVec 8)) (hb : b.length = 16) : ∀ n, (rencI ks b n).length = 16
  | 0 => by rw [rencI, xorF_length, hb]
  | n + 1 => by
    rw [rencI, xorF_length]
    split
    · rw [rmixF_length, rsubF_length]
    · rw [rsubF_length]

set_option maxHeartbeats 4000000 in
theorem renc_ac (ks : List (List (BitVec 8))) (b : List (BitVec 8)) (hb : b.length = 16) (hr : Rows 15 16 ks) : AC Tryd.prog 50 [.node (ks.map .u8s), .u8s b] 0 gB ⟨.u8s (rencI ks b 14), [], []⟩ := by
  have h1 : ks.length = 15 := hr.1
  have hm : (ks.map D.u8s).length = 15 := by rw [List.length_map, h1]
  have hx := xorF_length b (ks.getD 0 [])
  rw [hb] at hx
  refine ac_of tab mix Tryd.func50 rfl (by kernel_rfl) (by kernel_rfl) (by kernel_rfl) ⟨[22], []⟩ ?_
  refine EffG.mk (And.intro hr.ty ?_)
  repeat first | (rw [nthD_u8s (l := ks)]; rotate_left; omega) | (refine EffG.mk (And.intro ?_ ?_); focus ((repeat' (first | exact trivial | refine And.intro ?_ ?_)) <;> (first | omega | (simp only [hasTy, okP, lenD, D.ren, D.isCell, Option.getD, List.length_set, List.length_take, List.length_drop, List.length_append, List.length_replicate, List.length_map, List.length_cons, List.length_nil, Option.map] <;> omega) | with_reducible assumption | with_reducible rfl | decide); done)) | (refine And.intro ?_ ?_; focus ((repeat' (first | exact trivial | refine And.intro ?_ ?_)) <;> (first | omega | (simp only [hasTy, okP, lenD, D.ren, D.isCell, Option.getD, List.length_set, List.length_take, List.length_drop, List.length_append, List.length_replicate, List.length_map, List.length_cons, List.length_nil, Option.map] <;> omega) | with_reducible assumption | with_reducible rfl | decide); done)) | refine chkG (by kernel_rfl) ?_
  refine callG (with_ac b (ks.getD 0 []) hb (hr.get (by omega))) [] rfl rfl trivial rfl rfl ?_
  repeat first | (refine EffG.mk (And.intro ?_ ?_); focus ((repeat' (first | exact trivial | refine And.intro ?_ ?_)) <;> (first | omega | (simp only [hasTy, okP, lenD, D.ren, D.isCell, Option.getD, List.length_set, List.length_take, List.length_drop, List.length_append, List.length_replicate, List.length_map, List.length_cons, List.length_nil, Option.map] <;> omega) | with_reducible assumption | with_reducible rfl | decide); done)) | (refine And.intro ?_ ?_; focus ((repeat' (first | exact trivial | refine And.intro ?_ ?_)) <;> (first | omega | (simp only [hasTy, okP, lenD, D.ren, D.isCell, Option.getD, List.length_set, List.length_take, List.length_drop, List.length_append, List.length_replicate, List.length_map, List.length_cons, List.length_nil, Option.map] <;> omega) | with_reducible assumption | with_reducible rfl | decide); done)) | refine chkG (by kernel_rfl) ?_
  refine loopG Nat (fun k => [(2, .ptr 0 []), (4, .ptr 2 []), (5, .ptr 3 []), (6, .i64 (k + 1 : Nat))])
    (fun k => [(0, some ⟨t15, .node (ks.map .u8s), true⟩), (2, some ⟨t16, .u8s (List.replicate 16 0), true⟩), (3, some ⟨t16, .u8s (rencI ks b k), true⟩), (gid 0, some ⟨t256, .u8s boxL, false⟩)]) 4 (fun k => k ≤ 14) (fun k => 14 - k) 0 [0, 1, 2, 3] (Nat.zero_le _) ?_ ?_
  · exact viewG rfl ⟨rfl, rfl, rfl, rfl, trivial⟩ ⟨⟨_, rfl, rfl, (ren_rows _ _).symm, id⟩, ⟨_, rfl, rfl, rfl, id⟩, ⟨_, rfl, rfl, rfl, id⟩, ⟨_, rfl, rfl, rfl, id⟩, trivial⟩ rfl
  intro k hk14
  have hl := rencI_length ks b hb k
  repeat first | (refine EffG.mk (And.intro ?_ ?_); focus ((repeat' (first | exact trivial | refine And.intro ?_ ?_)) <;> (first | omega | (simp only [hasTy, okP, lenD, D.ren, D.isCell, Option.getD, List.length_set, List.length_take, List.length_drop, List.length_append, List.length_replicate, List.length_map, List.length_cons, List.length_nil, Option.map] <;> omega) | with_reducible assumption | with_reducible rfl | decide); done)) | (refine And.intro ?_ ?_; focus ((repeat' (first | exact trivial | refine And.intro ?_ ?_)) <;> (first | omega | (simp only [hasTy, okP, lenD, D.ren, D.isCell, Option.getD, List.length_set, List.length_take, List.length_drop, List.length_append, List.length_replicate, List.length_map, List.length_cons, List.length_nil, Option.map] <;> omega) | with_reducible assumption | with_reducible rfl | decide); done)) | refine chkG (by kernel_rfl) ?_
  refine Br.split (fun h => ?_) (fun h => ?_)
  · have hk14 : k < 14 := by have := of_decide_eq_true h; omega
    have hc : rencI ks b (k + 1) = xorF (if k + 1 < 14 then rmixF (rsubF (rencI ks b k)) else rsubF (rencI ks b k)) (ks.getD (k + 1) []) := rfl
    generalize rencI ks b k = s at hl hc ⊢
    repeat first | (refine EffG.mk (And.intro ?_ ?_); focus ((repeat' (first | exact trivial | refine And.intro ?_ ?_)) <;> (first | omega | (simp only [hasTy, okP, lenD, D.ren, D.isCell, Option.getD, List.length_set, List.length_take, List.length_drop, List.length_append, List.length_replicate, List.length_map, List.length_cons, List.length_nil, Option.map] <;> omega) | with_reducible assumption | with_reducible rfl | decide); done)) | (refine And.intro ?_ ?_; focus ((repeat' (first | exact trivial | refine And.intro ?_ ?_)) <;> (first | omega | (simp only [hasTy, okP, lenD, D.ren, D.isCell, Option.getD, List.length_set, List.length_take, List.length_drop, List.length_append, List.length_replicate, List.length_map, List.length_cons, List.length_nil, Option.map] <;> omega) | with_reducible assumption | with_reducible rfl | decide); done)) | refine chkG (by kernel_rfl) ?_
    refine loopG Nat (fun c => [(2, .ptr 0 []), (4, .ptr 2 []), (5, .ptr 3 []), (6, .i64 (k + 1 : Nat)), (7, .ptr 4 []), (8, .i64 c)])
      (fun c => [(0, some ⟨t15, .node (ks.map .u8s), true⟩), (2, some ⟨t16, .u8s (List.replicate 16 0), true⟩), (3, some ⟨t16, .u8s s, true⟩), (4, some ⟨t16, .u8s (setsI id (rsubV s) (List.replicate 16 0) (4 * c)), true⟩), (gid 0, some ⟨t256, .u8s boxL, false⟩)]) 5 (fun c => c ≤ 4) (fun c => 4 - c) 0 [0, 1, 2, 3, 4] (Nat.zero_le _) ?_ ?_
    · exact viewG rfl ⟨rfl, rfl, rfl, rfl, rfl, rfl, trivial⟩ ⟨⟨_, rfl, rfl, (ren_rows _ _).symm, id⟩, ⟨_, rfl, rfl, rfl, id⟩, ⟨_, rfl, rfl, rfl, id⟩, ⟨_, rfl, rfl, rfl, id⟩, ⟨_, rfl, rfl, rfl, id⟩, trivial⟩ rfl
    intro c hc4
    repeat first | (refine EffG.mk (And.intro ?_ ?_); focus ((repeat' (first | exact trivial | refine And.intro ?_ ?_)) <;> (first | omega | (simp only [hasTy, okP, lenD, D.ren, D.isCell, Option.getD, List.length_set, List.length_take, List.length_drop, List.length_append, List.length_replicate, List.length_map, List.length_cons, List.length_nil, Option.map] <;> omega) | with_reducible assumption | with_reducible rfl | decide); done)) | (refine And.intro ?_ ?_; focus ((repeat' (first | exact trivial | refine And.intro ?_ ?_)) <;> (first | omega | (simp only [hasTy, okP, lenD, D.ren, D.isCell, Option.getD, List.length_set, List.length_take, List.length_drop, List.length_append, List.length_replicate, List.length_map, List.length_cons, List.length_nil, Option.map] <;> omega) | with_reducible assumption | with_reducible rfl | decide); done)) | refine chkG (by kernel_rfl) ?_
    refine Br.split (fun h => ?_) (fun h => ?_)
    · have hc4 : c < 4 := by have := of_decide_eq_true h; omega
      repeat first | (refine EffG.mk (And.intro ?_ ?_); focus ((repeat' (first | exact trivial | refine And.intro ?_ ?_)) <;> (first | omega | (simp only [hasTy, okP, lenD, D.ren, D.isCell, Option.getD, List.length_set, List.length_take, List.length_drop, List.length_append, List.length_replicate, List.length_map, List.length_cons, List.length_nil, Option.map] <;> omega) | with_reducible assumption | with_reducible rfl | decide); done)) | (refine And.intro ?_ ?_; focus ((repeat' (first | exact trivial | refine And.intro ?_ ?_)) <;> (first | omega | (simp only [hasTy, okP, lenD, D.ren, D.isCell, Option.getD, List.length_set, List.length_take, List.length_drop, List.length_append, List.length_replicate, List.length_map, List.length_cons, List.length_nil, Option.map] <;> omega) | with_reducible assumption | with_reducible rfl | decide); done)) | refine chkG (by kernel_rfl) ?_
      refine loopG Nat (fun r => [(2, .ptr 0 []), (4, .ptr 2 []), (5, .ptr 3 []), (6, .i64 (k + 1 : Nat)), (7, .ptr 4 []), (8, .i64 c), (9, .i64 r)])
        (fun r => [(0, some ⟨t15, .node (ks.map .u8s), true⟩), (2, some ⟨t16, .u8s (List.replicate 16 0), true⟩), (3, some ⟨t16, .u8s s, true⟩), (4, some ⟨t16, .u8s (setsI id (rsubV s) (List.replicate 16 0) (4 * c + r)), true⟩), (gid 0, some ⟨t256, .u8s boxL, false⟩)]) 5 (fun r => r ≤ 4) (fun r => 4 - r) 0 [0, 1, 2, 3, 4] (Nat.zero_le _) ?_ ?_
      · exact viewG rfl ⟨rfl, rfl, rfl, rfl, rfl, rfl, rfl, trivial⟩ ⟨⟨_, rfl, rfl, (ren_rows _ _).symm, id⟩, ⟨_, rfl, rfl, rfl, id⟩, ⟨_, rfl, rfl, rfl, id⟩, ⟨_, rfl, rfl, rfl, id⟩, ⟨_, rfl, rfl, rfl, id⟩, trivial⟩ rfl
      intro r hr4
      have hq := setsI_length id (rsubV s) (List.replicate 16 0) (4 * c + r)
      rw [List.length_replicate] at hq
      repeat first | (refine EffG.mk (And.intro ?_ ?_); focus ((repeat' (first | exact trivial | refine And.intro ?_ ?_)) <;> (first | omega | (simp only [hasTy, okP, lenD, D.ren, D.isCell, Option.getD, List.length_set, List.length_take, List.length_drop, List.length_append, List.length_replicate, List.length_map, List.length_cons, List.length_nil, Option.map] <;> omega) | with_reducible assumption | with_reducible rfl | decide); done)) | (refine And.intro ?_ ?_; focus ((repeat' (first | exact trivial | refine And.intro ?_ ?_)) <;> (first | omega | (simp only [hasTy, okP, lenD, D.ren, D.isCell, Option.getD, List.length_set, List.length_take, List.length_drop, List.length_append, List.length_replicate, List.length_map, List.length_cons, List.length_nil, Option.map] <;> omega) | with_reducible assumption | with_reducible rfl | decide); done)) | refine chkG (by kernel_rfl) ?_
      refine Br.split (fun h => ?_) (fun h => ?_)
      · have hr4 : r < 4 := by have := of_decide_eq_true h; omega
        have e1 : 4 * (c : Int) + (r : Int) = ((4 * c + r : Nat) : Int) := by omega
        have e2 : Int.tmod ((c : Int) + (r : Int)) 4 = (((c + r) % 4 : Nat) : Int) := Int.ofNat_tmod (c + r) 4
        have e3 : 4 * (((c + r) % 4 : Nat) : Int) + (r : Int) = ((4 * ((c + r) % 4) + r : Nat) : Int) := by omega
        repeat first | rw [e1] | rw [e2] | rw [e3] | rw [Int.toNat_natCast] | refine EffG.mk (And.intro (gx1 _) ?_) | refine EffG.mk (And.intro (gx2 _) ?_) | (refine EffG.mk (And.intro ?_ ?_); focus ((repeat' (first | exact trivial | refine And.intro ?_ ?_)) <;> (first | omega | (simp only [hasTy, okP, lenD, D.ren, D.isCell, Option.getD, List.length_set, List.length_take, List.length_drop, List.length_append, List.length_replicate, List.length_map, List.length_cons, List.length_nil, Option.map] <;> omega) | with_reducible assumption | with_reducible rfl | decide); done)) | (refine And.intro ?_ ?_; focus ((repeat' (first | exact trivial | refine And.intro ?_ ?_)) <;> (first | omega | (simp only [hasTy, okP, lenD, D.ren, D.isCell, Option.getD, List.length_set, List.length_take, List.length_drop, List.length_append, List.length_replicate, List.length_map, List.length_cons, List.length_nil, Option.map] <;> omega) | with_reducible assumption | with_reducible rfl | decide); done)) | refine chkG (by kernel_rfl) ?_
        refine nextG (r + 1) [0, 1, 2, 3, 4] ?_ ?_ ?_
        · omega
        · omega
        · refine viewG rfl ⟨rfl, rfl, rfl, rfl, rfl, rfl, rfl, trivial⟩ ⟨⟨_, rfl, rfl, (ren_rows _ _).symm, id⟩, ⟨_, rfl, rfl, rfl, id⟩, ⟨_, rfl, rfl, rfl, id⟩, ⟨_, rfl, rfl, congrArg D.u8s ?_, id⟩, ⟨_, rfl, rfl, rfl, id⟩, trivial⟩ rfl
          rw [← Nat.add_assoc, setsI, rsubV, show (4 * c + r) / 4 = c by omega, show (4 * c + r) % 4 = r by omega]
          rfl
      · have hr4 : r = 4 := by have := of_decide_eq_false h; omega
        subst hr4
        repeat first | (refine EffG.mk (And.intro ?_ ?_); focus ((repeat' (first | exact trivial | refine And.intro ?_ ?_)) <;> (first | omega | (simp only [hasTy, okP, lenD, D.ren, D.isCell, Option.getD, List.length_set, List.length_take, List.length_drop, List.length_append, List.length_replicate, List.length_map, List.length_cons, List.length_nil, Option.map] <;> omega) | with_reducible assumption | with_reducible rfl | decide); done)) | (refine And.intro ?_ ?_; focus ((repeat' (first | exact trivial | refine And.intro ?_ ?_)) <;> (first | omega | (simp only [hasTy, okP, lenD, D.ren, D.isCell, Option.getD, List.length_set, List.length_take, List.length_drop, List.length_append, List.length_replicate, List.length_map, List.length_cons, List.length_nil, Option.map] <;> omega) | with_reducible assumption | with_reducible rfl | decide); done)) | refine chkG (by kernel_rfl) ?_
        refine nextG (c + 1) [0, 1, 2, 3, 4] ?_ ?_ ?_
        · omega
        · omega
        · exact viewG rfl ⟨rfl, rfl, rfl, rfl, rfl, rfl, trivial⟩ ⟨⟨_, rfl, rfl, (ren_rows _ _).symm, id⟩, ⟨_, rfl, rfl, rfl, id⟩, ⟨_, rfl, rfl, rfl, id⟩, ⟨_, rfl, rfl, rfl, id⟩, ⟨_, rfl, rfl, rfl, id⟩, trivial⟩ rfl
    · have hc4 : c = 4 := by have := of_decide_eq_false h; omega
      subst hc4
      have ht := rsubF_length s
      have hu := rmixF_length (rsubF s)
      rw [ht] at hu
      have e0 : setsI id (rsubV s) (List.replicate 16 0) (4 * 4) = rsubF s := rfl
      rw [e0]
      generalize rsubF s = t at ht hc hu ⊢
      repeat first | (refine EffG.mk (And.intro ?_ ?_); focus ((repeat' (first | exact trivial | refine And.intro ?_ ?_)) <;> (first | omega | (simp only [hasTy, okP, lenD, D.ren, D.isCell, Option.getD, List.length_set, List.length_take, List.length_drop, List.length_append, List.length_replicate, List.length_map, List.length_cons, List.length_nil, Option.map] <;> omega) | with_reducible assumption | with_reducible rfl | decide); done)) | (refine And.intro ?_ ?_; focus ((repeat' (first | exact trivial | refine And.intro ?_ ?_)) <;> (first | omega | (simp only [hasTy, okP, lenD, D.ren, D.isCell, Option.getD, List.length_set, List.length_take, List.length_drop, List.length_append, List.length_replicate, List.length_map, List.length_cons, List.length_nil, Option.map] <;> omega) | with_reducible assumption | with_reducible rfl | decide); done)) | refine chkG (by kernel_rfl) ?_
      refine joinG Unit (fun _ => [(2, .ptr 0 []), (4, .ptr 2 []), (5, .ptr 3 []), (6, .i64 (k + 1 : Nat))])
        (fun _ => [(0, some ⟨t15, .node (ks.map .u8s), true⟩), (2, some ⟨t16, .u8s (List.replicate 16 0), true⟩), (3, some ⟨t16, .u8s (if k + 1 < 14 then rmixF t else t), true⟩), (gid 0, some ⟨t256, .u8s boxL, false⟩)]) 4 (fun _ => True) ?_ ?_
      · repeat first | (refine EffG.mk (And.intro ?_ ?_); focus ((repeat' (first | exact trivial | refine And.intro ?_ ?_)) <;> (first | omega | (simp only [hasTy, okP, lenD, D.ren, D.isCell, Option.getD, List.length_set, List.length_take, List.length_drop, List.length_append, List.length_replicate, List.length_map, List.length_cons, List.length_nil, Option.map] <;> omega) | with_reducible assumption | with_reducible rfl | decide); done)) | (refine And.intro ?_ ?_; focus ((repeat' (first | exact trivial | refine And.intro ?_ ?_)) <;> (first | omega | (simp only [hasTy, okP, lenD, D.ren, D.isCell, Option.getD, List.length_set, List.length_take, List.length_drop, List.length_append, List.length_replicate, List.length_map, List.length_cons, List.length_nil, Option.map] <;> omega) | with_reducible assumption | with_reducible rfl | decide); done)) | refine chkG (by kernel_rfl) ?_
        refine loopG Nat (fun c => [(2, .ptr 0 []), (4, .ptr 2 []), (5, .ptr 3 []), (6, .i64 (k + 1 : Nat)), (7, .ptr 4 []), (10, .i64 c)])
          (fun c => [(0, some ⟨t15, .node (ks.map .u8s), true⟩), (2, some ⟨t16, .u8s (List.replicate 16 0), true⟩), (3, some ⟨t16, .u8s (setsI id (rmixV t) t (4 * c)), true⟩), (4, some ⟨t16, .u8s t, true⟩), (gid 0, some ⟨t256, .u8s boxL, false⟩)]) 5 (fun c => c ≤ 4 ∧ (¬ k + 1 < 14 → c = 0)) (fun c => 4 - c) 0 [0, 1, 2, 3, 4] ⟨Nat.zero_le _, fun _ => rfl⟩ ?_ ?_
        · exact viewG rfl ⟨rfl, rfl, rfl, rfl, rfl, rfl, trivial⟩ ⟨⟨_, rfl, rfl, (ren_rows _ _).symm, id⟩, ⟨_, rfl, rfl, rfl, id⟩, ⟨_, rfl, rfl, rfl, id⟩, ⟨_, rfl, rfl, rfl, id⟩, ⟨_, rfl, rfl, rfl, id⟩, trivial⟩ rfl
        intro c ⟨hc4, hc0⟩
        repeat first | (refine EffG.mk (And.intro ?_ ?_); focus ((repeat' (first | exact trivial | refine And.intro ?_ ?_)) <;> (first | omega | (simp only [hasTy, okP, lenD, D.ren, D.isCell, Option.getD, List.length_set, List.length_take, List.length_drop, List.length_append, List.length_replicate, List.length_map, List.length_cons, List.length_nil, Option.map] <;> omega) | with_reducible assumption | with_reducible rfl | decide); done)) | (refine And.intro ?_ ?_; focus ((repeat' (first | exact trivial | refine And.intro ?_ ?_)) <;> (first | omega | (simp only [hasTy, okP, lenD, D.ren, D.isCell, Option.getD, List.length_set, List.length_take, List.length_drop, List.length_append, List.length_replicate, List.length_map, List.length_cons, List.length_nil, Option.map] <;> omega) | with_reducible assumption | with_reducible rfl | decide); done)) | refine chkG (by kernel_rfl) ?_
        refine Br.split (fun h => ?_) (fun h => ?_)
        · have hc4 : c < 4 := by have := of_decide_eq_true h; omega
          repeat first | (refine EffG.mk (And.intro ?_ ?_); focus ((repeat' (first | exact trivial | refine And.intro ?_ ?_)) <;> (first | omega | (simp only [hasTy, okP, lenD, D.ren, D.isCell, Option.getD, List.length_set, List.length_take, List.length_drop, List.length_append, List.length_replicate, List.length_map, List.length_cons, List.length_nil, Option.map] <;> omega) | with_reducible assumption | with_reducible rfl | decide); done)) | (refine And.intro ?_ ?_; focus ((repeat' (first | exact trivial | refine And.intro ?_ ?_)) <;> (first | omega | (simp only [hasTy, okP, lenD, D.ren, D.isCell, Option.getD, List.length_set, List.length_take, List.length_drop, List.length_append, List.length_replicate, List.length_map, List.length_cons, List.length_nil, Option.map] <;> omega) | with_reducible assumption | with_reducible rfl | decide); done)) | refine chkG (by kernel_rfl) ?_ | refine Br.yes rfl ?_
          refine Br.split (fun h => ?_) (fun h => ?_)
          · have hk : k + 1 < 14 := by have := of_decide_eq_true h; omega
            repeat first | (refine EffG.mk (And.intro ?_ ?_); focus ((repeat' (first | exact trivial | refine And.intro ?_ ?_)) <;> (first | omega | (simp only [hasTy, okP, lenD, D.ren, D.isCell, Option.getD, List.length_set, List.length_take, List.length_drop, List.length_append, List.length_replicate, List.length_map, List.length_cons, List.length_nil, Option.map] <;> omega) | with_reducible assumption | with_reducible rfl | decide); done)) | (refine And.intro ?_ ?_; focus ((repeat' (first | exact trivial | refine And.intro ?_ ?_)) <;> (first | omega | (simp only [hasTy, okP, lenD, D.ren, D.isCell, Option.getD, List.length_set, List.length_take, List.length_drop, List.length_append, List.length_replicate, List.length_map, List.length_cons, List.length_nil, Option.map] <;> omega) | with_reducible assumption | with_reducible rfl | decide); done)) | refine chkG (by kernel_rfl) ?_
            refine loopG Nat (fun r => [(2, .ptr 0 []), (4, .ptr 2 []), (5, .ptr 3 []), (6, .i64 (k + 1 : Nat)), (7, .ptr 4 []), (10, .i64 c), (11, .i64 r)])
              (fun r => [(0, some ⟨t15, .node (ks.map .u8s), true⟩), (2, some ⟨t16, .u8s (List.replicate 16 0), true⟩), (3, some ⟨t16, .u8s (setsI id (rmixV t) t (4 * c + r)), true⟩), (4, some ⟨t16, .u8s t, true⟩), (gid 0, some ⟨t256, .u8s boxL, false⟩)]) 5 (fun r => r ≤ 4) (fun r => 4 - r) 0 [0, 1, 2, 3, 4] (Nat.zero_le _) ?_ ?_
            · exact viewG rfl ⟨rfl, rfl, rfl, rfl, rfl, rfl, rfl, trivial⟩ ⟨⟨_, rfl, rfl, (ren_rows _ _).symm, id⟩, ⟨_, rfl, rfl, rfl, id⟩, ⟨_, rfl, rfl, rfl, id⟩, ⟨_, rfl, rfl, rfl, id⟩, ⟨_, rfl, rfl, rfl, id⟩, trivial⟩ rfl
            intro r hr4
            have hq := setsI_length id (rmixV t) t (4 * c + r)
            rw [ht] at hq
            repeat first | (refine EffG.mk (And.intro ?_ ?_); focus ((repeat' (first | exact trivial | refine And.intro ?_ ?_)) <;> (first | omega | (simp only [hasTy, okP, lenD, D.ren, D.isCell, Option.getD, List.length_set, List.length_take, List.length_drop, List.length_append, List.length_replicate, List.length_map, List.length_cons, List.length_nil, Option.map] <;> omega) | with_reducible assumption | with_reducible rfl | decide); done)) | (refine And.intro ?_ ?_; focus ((repeat' (first | exact trivial | refine And.intro ?_ ?_)) <;> (first | omega | (simp only [hasTy, okP, lenD, D.ren, D.isCell, Option.getD, List.length_set, List.length_take, List.length_drop, List.length_append, List.length_replicate, List.length_map, List.length_cons, List.length_nil, Option.map] <;> omega) | with_reducible assumption | with_reducible rfl | decide); done)) | refine chkG (by kernel_rfl) ?_
            refine Br.split (fun h => ?_) (fun h => ?_)
            · have hr4 : r < 4 := by have := of_decide_eq_true h; omega
              have e1 : 4 * (c : Int) + (r : Int) = ((4 * c + r : Nat) : Int) := by omega
              have m1 : Int.tmod ((r : Int) + 1) 4 = (((r + 1) % 4 : Nat) : Int) := Int.ofNat_tmod (r + 1) 4
              have m2 : Int.tmod ((r : Int) + 2) 4 = (((r + 2) % 4 : Nat) : Int) := Int.ofNat_tmod (r + 2) 4
              have m3 : Int.tmod ((r : Int) + 3) 4 = (((r + 3) % 4 : Nat) : Int) := Int.ofNat_tmod (r + 3) 4
              have n1 : 4 * (c : Int) + (((r + 1) % 4 : Nat) : Int) = ((4 * c + (r + 1) % 4 : Nat) : Int) := by omega
              have n2 : 4 * (c : Int) + (((r + 2) % 4 : Nat) : Int) = ((4 * c + (r + 2) % 4 : Nat) : Int) := by omega
              have n3 : 4 * (c : Int) + (((r + 3) % 4 : Nat) : Int) = ((4 * c + (r + 3) % 4 : Nat) : Int) := by omega
              repeat first | rw [e1] | rw [m1] | rw [m2] | rw [m3] | rw [n1] | rw [n2] | rw [n3] | rw [Int.toNat_natCast] | (refine EffG.mk (And.intro ?_ ?_); focus ((repeat' (first | exact trivial | refine And.intro ?_ ?_)) <;> (first | omega | (simp only [hasTy, okP, lenD, D.ren, D.isCell, Option.getD, List.length_set, List.length_take, List.length_drop, List.length_append, List.length_replicate, List.length_map, List.length_cons, List.length_nil, Option.map] <;> omega) | with_reducible assumption | with_reducible rfl | decide); done)) | (refine And.intro ?_ ?_; focus ((repeat' (first | exact trivial | refine And.intro ?_ ?_)) <;> (first | omega | (simp only [hasTy, okP, lenD, D.ren, D.isCell, Option.getD, List.length_set, List.length_take, List.length_drop, List.length_append, List.length_replicate, List.length_map, List.length_cons, List.length_nil, Option.map] <;> omega) | with_reducible assumption | with_reducible rfl | decide); done)) | refine chkG (by kernel_rfl) ?_
              refine callG (twice_ac _) [] rfl rfl trivial rfl rfl ?_
              repeat first | (refine EffG.mk (And.intro ?_ ?_); focus ((repeat' (first | exact trivial | refine And.intro ?_ ?_)) <;> (first | omega | (simp only [hasTy, okP, lenD, D.ren, D.isCell, Option.getD, List.length_set, List.length_take, List.length_drop, List.length_append, List.length_replicate, List.length_map, List.length_cons, List.length_nil, Option.map] <;> omega) | with_reducible assumption | with_reducible rfl | decide); done)) | (refine And.intro ?_ ?_; focus ((repeat' (first | exact trivial | refine And.intro ?_ ?_)) <;> (first | omega | (simp only [hasTy, okP, lenD, D.ren, D.isCell, Option.getD, List.length_set, List.length_take, List.length_drop, List.length_append, List.length_replicate, List.length_map, List.length_cons, List.length_nil, Option.map] <;> omega) | with_reducible assumption | with_reducible rfl | decide); done)) | refine chkG (by kernel_rfl) ?_
              refine callG (twice_ac _) [] rfl rfl trivial rfl rfl ?_
              repeat first | (refine EffG.mk (And.intro ?_ ?_); focus ((repeat' (first | exact trivial | refine And.intro ?_ ?_)) <;> (first | omega | (simp only [hasTy, okP, lenD, D.ren, D.isCell, Option.getD, List.length_set, List.length_take, List.length_drop, List.length_append, List.length_replicate, List.length_map, List.length_cons, List.length_nil, Option.map] <;> omega) | with_reducible assumption | with_reducible rfl | decide); done)) | (refine And.intro ?_ ?_; focus ((repeat' (first | exact trivial | refine And.intro ?_ ?_)) <;> (first | omega | (simp only [hasTy, okP, lenD, D.ren, D.isCell, Option.getD, List.length_set, List.length_take, List.length_drop, List.length_append, List.length_replicate, List.length_map, List.length_cons, List.length_nil, Option.map] <;> omega) | with_reducible assumption | with_reducible rfl | decide); done)) | refine chkG (by kernel_rfl) ?_
              refine nextG (r + 1) [0, 1, 2, 3, 4] ?_ ?_ ?_
              · omega
              · omega
              · refine viewG rfl ⟨rfl, rfl, rfl, rfl, rfl, rfl, rfl, trivial⟩ ⟨⟨_, rfl, rfl, (ren_rows _ _).symm, id⟩, ⟨_, rfl, rfl, rfl, id⟩, ⟨_, rfl, rfl, congrArg D.u8s ?_, id⟩, ⟨_, rfl, rfl, rfl, id⟩, ⟨_, rfl, rfl, rfl, id⟩, trivial⟩ rfl
                rw [← Nat.add_assoc, setsI, rmixV, show (4 * c + r) / 4 = c by omega, show (4 * c + r) % 4 = r by omega]
                rfl
            · have hr4 : r = 4 := by have := of_decide_eq_false h; omega
              subst hr4
              repeat first | (refine EffG.mk (And.intro ?_ ?_); focus ((repeat' (first | exact trivial | refine And.intro ?_ ?_)) <;> (first | omega | (simp only [hasTy, okP, lenD, D.ren, D.isCell, Option.getD, List.length_set, List.length_take, List.length_drop, List.length_append, List.length_replicate, List.length_map, List.length_cons, List.length_nil, Option.map] <;> omega) | with_reducible assumption | with_reducible rfl | decide); done)) | (refine And.intro ?_ ?_; focus ((repeat' (first | exact trivial | refine And.intro ?_ ?_)) <;> (first | omega | (simp only [hasTy, okP, lenD, D.ren, D.isCell, Option.getD, List.length_set, List.length_take, List.length_drop, List.length_append, List.length_replicate, List.length_map, List.length_cons, List.length_nil, Option.map] <;> omega) | with_reducible assumption | with_reducible rfl | decide); done)) | refine chkG (by kernel_rfl) ?_
              refine nextG (c + 1) [0, 1, 2, 3, 4] ?_ ?_ ?_
              · exact ⟨by omega, fun h => absurd hk h⟩
              · show 4 - (c + 1) < 4 - c
                omega
              · exact viewG rfl ⟨rfl, rfl, rfl, rfl, rfl, rfl, trivial⟩ ⟨⟨_, rfl, rfl, (ren_rows _ _).symm, id⟩, ⟨_, rfl, rfl, rfl, id⟩, ⟨_, rfl, rfl, rfl, id⟩, ⟨_, rfl, rfl, rfl, id⟩, ⟨_, rfl, rfl, rfl, id⟩, trivial⟩ rfl
          · have hk : ¬ k + 1 < 14 := by have := of_decide_eq_false h; omega
            have hc0 := hc0 hk
            subst hc0
            refine meetG () [0, 1, 2, 3] trivial ?_
            exact viewG rfl ⟨rfl, rfl, rfl, rfl, trivial⟩ ⟨⟨_, rfl, rfl, (ren_rows _ _).symm, id⟩, ⟨_, rfl, rfl, rfl, id⟩, ⟨_, rfl, rfl, congrArg D.u8s (if_neg hk).symm, id⟩, ⟨_, rfl, rfl, rfl, id⟩, trivial⟩ rfl
        · have hc4 : c = 4 := by have := of_decide_eq_false h; omega
          subst hc4
          have hk : k + 1 < 14 := Decidable.byContradiction fun h => by have := hc0 h; omega
          repeat first | (refine EffG.mk (And.intro ?_ ?_); focus ((repeat' (first | exact trivial | refine And.intro ?_ ?_)) <;> (first | omega | (simp only [hasTy, okP, lenD, D.ren, D.isCell, Option.getD, List.length_set, List.length_take, List.length_drop, List.length_append, List.length_replicate, List.length_map, List.length_cons, List.length_nil, Option.map] <;> omega) | with_reducible assumption | with_reducible rfl | decide); done)) | (refine And.intro ?_ ?_; focus ((repeat' (first | exact trivial | refine And.intro ?_ ?_)) <;> (first | omega | (simp only [hasTy, okP, lenD, D.ren, D.isCell, Option.getD, List.length_set, List.length_take, List.length_drop, List.length_append, List.length_replicate, List.length_map, List.length_cons, List.length_nil, Option.map] <;> omega) | with_reducible assumption | with_reducible rfl | decide); done)) | refine chkG (by kernel_rfl) ?_ | refine Br.no rfl ?_
          refine meetG () [0, 1, 2, 3] trivial ?_
          exact viewG rfl ⟨rfl, rfl, rfl, rfl, trivial⟩ ⟨⟨_, rfl, rfl, (ren_rows _ _).symm, id⟩, ⟨_, rfl, rfl, rfl, id⟩, ⟨_, rfl, rfl, congrArg D.u8s (if_pos hk).symm, id⟩, ⟨_, rfl, rfl, rfl, id⟩, trivial⟩ rfl
      intro _ _
      have hz : (if k + 1 < 14 then rmixF t else t).length = 16 := by
        split
        · exact hu
        · exact ht
      generalize (if k + 1 < 14 then rmixF t else t) = z at hz hc ⊢
      have hx2 := xorF_length z (ks.getD (k + 1) [])
      rw [hz] at hx2
      repeat first | (rw [nthD_u8s (l := ks)]; rotate_left; omega) | rw [Int.toNat_natCast (k + 1)] | (refine EffG.mk (And.intro ?_ ?_); focus ((repeat' (first | exact trivial | refine And.intro ?_ ?_)) <;> (first | omega | (simp only [hasTy, okP, lenD, D.ren, D.isCell, Option.getD, List.length_set, List.length_take, List.length_drop, List.length_append, List.length_replicate, List.length_map, List.length_cons, List.length_nil, Option.map] <;> omega) | with_reducible assumption | with_reducible rfl | decide); done)) | (refine And.intro ?_ ?_; focus ((repeat' (first | exact trivial | refine And.intro ?_ ?_)) <;> (first | omega | (simp only [hasTy, okP, lenD, D.ren, D.isCell, Option.getD, List.length_set, List.length_take, List.length_drop, List.length_append, List.length_replicate, List.length_map, List.length_cons, List.length_nil, Option.map] <;> omega) | with_reducible assumption | with_reducible rfl | decide); done)) | refine chkG (by kernel_rfl) ?_
      refine callG (with_ac z (ks.getD (k + 1) []) hz (hr.get (by omega))) [] rfl rfl trivial rfl rfl ?_
      repeat first | (refine EffG.mk (And.intro ?_ ?_); focus ((repeat' (first | exact trivial | refine And.intro ?_ ?_)) <;> (first | omega | (simp only [hasTy, okP, lenD, D.ren, D.isCell, Option.getD, List.length_set, List.length_take, List.length_drop, List.length_append, List.length_replicate, List.length_map, List.length_cons, List.length_nil, Option.map] <;> omega) | with_reducible assumption | with_reducible rfl | decide); done)) | (refine And.intro ?_ ?_; focus ((repeat' (first | exact trivial | refine And.intro ?_ ?_)) <;> (first | omega | (simp only [hasTy, okP, lenD, D.ren, D.isCell, Option.getD, List.length_set, List.length_take, List.length_drop, List.length_append, List.length_replicate, List.length_map, List.length_cons, List.length_nil, Option.map] <;> omega) | with_reducible assumption | with_reducible rfl | decide); done)) | refine chkG (by kernel_rfl) ?_
      refine nextG (k + 1) [0, 1, 2, 3] ?_ ?_ ?_
      · omega
      · omega
      · exact viewG rfl ⟨rfl, rfl, rfl, rfl, trivial⟩ ⟨⟨_, rfl, rfl, (ren_rows _ _).symm, id⟩, ⟨_, rfl, rfl, rfl, id⟩, ⟨_, rfl, rfl, congrArg D.u8s hc.symm, id⟩, ⟨_, rfl, rfl, rfl, id⟩, trivial⟩ rfl
  · have hk14 : k = 14 := by have := of_decide_eq_false h; omega
    subst hk14
    generalize rencI ks b 14 = z at hl ⊢
    repeat first | (refine EffG.mk (And.intro ?_ ?_); focus ((repeat' (first | exact trivial | refine And.intro ?_ ?_)) <;> (first | omega | (simp only [hasTy, okP, lenD, D.ren, D.isCell, Option.getD, List.length_set, List.length_take, List.length_drop, List.length_append, List.length_replicate, List.length_map, List.length_cons, List.length_nil, Option.map] <;> omega) | with_reducible assumption | with_reducible rfl | decide); done)) | (refine And.intro ?_ ?_; focus ((repeat' (first | exact trivial | refine And.intro ?_ ?_)) <;> (first | omega | (simp only [hasTy, okP, lenD, D.ren, D.isCell, Option.getD, List.length_set, List.length_take, List.length_drop, List.length_append, List.length_replicate, List.length_map, List.length_cons, List.length_nil, Option.map] <;> omega) | with_reducible assumption | with_reducible rfl | decide); done)) | refine chkG (by kernel_rfl) ?_
    refine retG [] rfl rfl ⟨⟨_, rfl, rfl, rfl, id⟩, trivial⟩ rfl
end Go.Proofs.YtljkjdhkofbgmaaDoor.Av

namespace Go.Proofs.YtljkjdhkofbgmaaDoor.Av
open Go
set_option linter.all false
set_option maxRecDepth 3000

theorem setsI_at {ix : Nat → Nat} (v : Nat → BitVec 8) (s : List (BitVec 8)) (N : Nat) (hix : ∀ i, i < N → ix i < s.length) (hinj : ∀ i, i < N → ∀ j, j < N → ix i = ix j → i = j) : ∀ n, n ≤ N → ∀ i, i < n → (setsI ix v s n).getD (ix i) 0 = v i
  | 0, _, i, hi => by omega
  | n + 1, hn, i, hi => by
    rw [setsI, getD_set (by rw [setsI_length]; exact hix n (by omega))]
    by_cases h : i = n
    · subst h; rw [if_pos rfl]
    · rw [if_neg (fun e => h (hinj i (by omega) n (by omega) e))]
      exact setsI_at v s N hix hinj n (by omega) i (by omega)

theorem sg_form : ∀ i, i < 16 → 4 * ((i / 4 + i % 4) % 4) + i % 4 = sg i := by decide

theorem rsub_eq (s : List (BitVec 8)) : rsubF s = subI s 16 := by
  refine ext16 (rsubF_length s) (subI_length s 16) fun i hi => ?_
  have h := setsI_at (ix := id) (rsubV s) (List.replicate 16 0) 16 (fun i hi => by rw [List.length_replicate]; exact hi) (fun i _ j _ h => h) 16 (Nat.le_refl _) i hi
  rw [subI_at s 16 (Nat.le_refl _) i hi, ← sg_form i hi]
  exact h

def rcF (f : BitVec 8 → BitVec 8) (a b c d : BitVec 8) : List (BitVec 8) :=
  [f a ^^^ f b ^^^ b ^^^ c ^^^ d, f b ^^^ f c ^^^ c ^^^ d ^^^ a, f c ^^^ f d ^^^ d ^^^ a ^^^ b, f d ^^^ f a ^^^ a ^^^ b ^^^ c]
theorem rmixF_list (a0 a1 a2 a3 a4 a5 a6 a7 a8 a9 a10 a11 a12 a13 a14 a15 : BitVec 8) : rmixF [a0, a1, a2, a3, a4, a5, a6, a7, a8, a9, a10, a11, a12, a13, a14, a15] =
    rcF shiftF a0 a1 a2 a3 ++ rcF shiftF a4 a5 a6 a7 ++ rcF shiftF a8 a9 a10 a11 ++ rcF shiftF a12 a13 a14 a15 := by
  kernel_rfl
theorem rc_mc (f : BitVec 8 → BitVec 8) (hf : ∀ x y, f (x ^^^ y) = f x ^^^ f y) (a b c d : BitVec 8) : rcF f a b c d = mcF f a b c d := by
  refine list4 ?_ ?_ ?_ ?_ <;> rw [hf] <;> simp only [BitVec.xor_assoc, BitVec.xor_comm, xor_lc, xor_cancel]
theorem rmix_eq (s : List (BitVec 8)) (hs : s.length = 16) : rmixF s = mixF s := by
  obtain ⟨a0, a1, a2, a3, a4, a5, a6, a7, a8, a9, a10, a11, a12, a13, a14, a15, rfl⟩ := list16 s hs
  rw [mixF_list, rmixF_list]
  exact four (rc_mc shiftF shiftF_xor _ _ _ _) (rc_mc shiftF shiftF_xor _ _ _ _) (rc_mc shiftF shiftF_xor _ _ _ _) (rc_mc shiftF shiftF_xor _ _ _ _)
theorem renc_eq (ks : List (List (BitVec 8))) (b : List (BitVec 8)) : ∀ n, rencI ks b n = encI ks b n
  | 0 => rfl
  | n + 1 => by
    rw [rencI, encI, renc_eq ks b n, rsub_eq, rmix_eq _ (subI_length _ _)]
end Go.Proofs.YtljkjdhkofbgmaaDoor.Av

namespace Go.Proofs.YtljkjdhkofbgmaaDoor.Av
open Go
set_option linter.all false
set_option maxRecDepth 3000

/-! layer 3: what the code computes -/
def rotF (x : BitVec 32) (k : Int) : BitVec 32 := x <<< (BitVec.ofInt 64 k &&& 31#64).toNat ||| x >>> (32#64 - (BitVec.ofInt 64 k &&& 31#64)).toNat
theorem rot_ac (x : BitVec 32) (k : Int) : AC Tryd.prog 89 [.u32 x, .i64 k] 0 [] ⟨.u32 (rotF x k), [], []⟩ := by
  refine acA tab mix Tryd.func89 {} ?_
  repeat first | refine EffG.mk (obA ?_) | refine obA ?_ | refine chkA ?_
  refine retA []

def rsF (x : BitVec 32) (a b c : Int) : BitVec 32 := rotF x (-a) ^^^ rotF x (-b) ^^^ rotF x (-c)
def mixW (x : BitVec 32) (a b c : Int) : BitVec 32 := rotF x (-a) ^^^ rotF x (-b) ^^^ x >>> c.toNat
theorem rturn_ac (x : BitVec 32) (a b c : Int) (ha : 0 ≤ a ∧ a < 64) (hb : 0 ≤ b ∧ b < 64) (hc : 0 ≤ c ∧ c < 64) : AC Tryd.prog 86 [.u32 x, .i64 a, .i64 b, .i64 c] 0 [] ⟨.u32 (rsF x a b c), [], []⟩ := by
  refine acA tab mix Tryd.func86 {} ?_
  repeat first | refine EffG.mk (obA ?_) | refine obA ?_ | refine chkA ?_
  refine callA (rot_ac x (-a)) [] ?_
  repeat first | refine EffG.mk (obA ?_) | refine obA ?_ | refine chkA ?_
  refine callA (rot_ac x (-b)) [] ?_
  repeat first | refine EffG.mk (obA ?_) | refine obA ?_ | refine chkA ?_
  refine callA (rot_ac x (-c)) [] ?_
  repeat first | refine EffG.mk (obA ?_) | refine obA ?_ | refine chkA ?_
  refine retA []
theorem mix_ac (x : BitVec 32) (a b c : Int) (ha : 0 ≤ a ∧ a < 64) (hb : 0 ≤ b ∧ b < 64) (hc : 0 ≤ c ∧ c < 64) : AC Tryd.prog 85 [.u32 x, .i64 a, .i64 b, .i64 c] 0 [] ⟨.u32 (mixW x a b c), [], []⟩ := by
  refine acA tab mix Tryd.func85 {} ?_
  repeat first | refine EffG.mk (obA ?_) | refine obA ?_ | refine chkA ?_
  refine callA (rot_ac x (-a)) [] ?_
  repeat first | refine EffG.mk (obA ?_) | refine obA ?_ | refine chkA ?_
  refine callA (rot_ac x (-b)) [] ?_
  repeat first | refine EffG.mk (obA ?_) | refine obA ?_ | refine chkA ?_
  refine retA []

/-! readers -/
abbrev tRd : Ty := .st [.cell, .cell]
theorem read_ac (off len : Nat) (cap : Option Nat) : AC Tryd.prog 83 [.slice 0 [] off len cap] 1 [] ⟨.ptr 1 [], [], [(tRd, .node [.slice 0 [] off len cap, .i64 0])]⟩ := by
  refine acA tab mix Tryd.func83 {} ?_
  repeat first | refine EffG.mk (obA ?_) | refine obA ?_ | refine chkA ?_
  refine retA [0, 1]

theorem next_ac (bs : List (BitVec 8)) (o l k : Nat) (cap : Option Nat) (h : k ≤ l) (hl : l < 9223372036854775808) (ho : o + l ≤ bs.length) :
    AC Tryd.prog 90 [.ptr 0 [], .i64 k] 2 [(0, some ⟨tRd, .node [.slice 1 [] o l cap, .i64 0], true⟩), (1, some ⟨.row .cell, .u8s bs, false⟩)]
      ⟨.slice 1 [] o k (some k), [(0, some (.node [.slice 1 [] (o + k) (l - k) (cap.map (· - k)), .i64 0]))], []⟩ := by
  refine acA tab mix Tryd.func90 {} ?_
  repeat first | refine EffG.mk (obA ?_) | refine obA ?_ | refine chkA ?_ | refine brY ?_ | refine brN ?_
  refine retA [0, 1]

def rdI (bs : List (BitVec 8)) (o : Nat) : Nat → BitVec 64
  | 0 => 0
  | i + 1 => rdI bs o i <<< 8 ||| (bs.getD (o + i) 0).setWidth 64
theorem number_ac (bs : List (BitVec 8)) (o l k : Nat) (cap : Option Nat) (h : k ≤ l) (hl : l < 9223372036854775808) (ho : o + l ≤ bs.length) :
    AC Tryd.prog 88 [.ptr 0 [], .i64 k] 2 [(0, some ⟨tRd, .node [.slice 1 [] o l cap, .i64 0], true⟩), (1, some ⟨.row .cell, .u8s bs, false⟩)]
      ⟨.u64 (rdI bs o k), [(0, some (.node [.slice 1 [] (o + k) (l - k) (cap.map (· - k)), .i64 0]))], []⟩ := by
  refine acA tab mix Tryd.func88 {} ?_
  repeat first | refine EffG.mk (obA ?_) | refine obA ?_ | refine chkA ?_
  refine callA (next_ac bs o l k cap h hl ho) [0, 1] ?_
  repeat first | refine EffG.mk (obA ?_) | refine obA ?_ | refine chkA ?_
  refine loopG Nat (fun i => [(0, .ptr 0 []), (6, .u64 (rdI bs o i)), (13, .slice 1 [] o k (some k)), (14, .i64 k), (15, .i64 i)])
    (fun _ => [(0, some ⟨tRd, .node [.slice 1 [] (o + k) (l - k) (cap.map (· - k)), .i64 0], true⟩), (1, some ⟨.row .cell, .u8s bs, false⟩)]) 2 (fun i => i ≤ k) (fun i => k - i) 0 [0, 1] (Nat.zero_le _) viewA ?_
  intro i hi
  repeat first | refine EffG.mk (obA ?_) | refine obA ?_ | refine chkA ?_
  refine Br.split (fun h => ?_) (fun h => ?_)
  · have hi : i < k := by have := of_decide_eq_true h; omega
    repeat first | refine EffG.mk (obA ?_) | refine obA ?_ | refine chkA ?_
    refine nextA (i + 1) [0, 1] viewA
  · obtain rfl : i = k := by have := of_decide_eq_false h; omega
    repeat first | refine EffG.mk (obA ?_) | refine obA ?_ | refine chkA ?_
    refine retA [0, 1]
theorem u32_ac (bs : List (BitVec 8)) (o l : Nat) (cap : Option Nat) (h : 4 ≤ l) (hl : l < 9223372036854775808) (ho : o + l ≤ bs.length) :
    AC Tryd.prog 84 [.ptr 0 []] 2 [(0, some ⟨tRd, .node [.slice 1 [] o l cap, .i64 0], true⟩), (1, some ⟨.row .cell, .u8s bs, false⟩)]
      ⟨.u32 ((rdI bs o 4).setWidth 32), [(0, some (.node [.slice 1 [] (o + 4) (l - 4) (cap.map (· - 4)), .i64 0]))], []⟩ := by
  refine acA tab mix Tryd.func84 {} ?_
  repeat first | refine EffG.mk (obA ?_) | refine obA ?_ | refine chkA ?_
  refine callA (number_ac bs o l 4 cap h hl ho) [0, 1] ?_
  repeat first | refine EffG.mk (obA ?_) | refine obA ?_ | refine chkA ?_
  refine retA [0, 1]

/-! a block -/
def K256 : List (BitVec 32) := [0x428a2f98, 0x71374491, 0xb5c0fbcf, 0xe9b5dba5, 0x3956c25b, 0x59f111f1, 0x923f82a4, 0xab1c5ed5, 0xd807aa98, 0x12835b01, 0x243185be, 0x550c7dc3, 0x72be5d74, 0x80deb1fe, 0x9bdc06a7, 0xc19bf174, 0xe49b69c1, 0xefbe4786, 0x0fc19dc6, 0x240ca1cc, 0x2de92c6f, 0x4a7484aa, 0x5cb0a9dc, 0x76f988da, 0x983e5152, 0xa831c66d, 0xb00327c8, 0xbf597fc7, 0xc6e00bf3, 0xd5a79147, 0x06ca6351, 0x14292967, 0x27b70a85, 0x2e1b2138, 0x4d2c6dfc, 0x53380d13, 0x650a7354, 0x766a0abb, 0x81c2c92e, 0x92722c85, 0xa2bfe8a1, 0xa81a664b, 0xc24b8b70, 0xc76c51a3, 0xd192e819, 0xd6990624, 0xf40e3585, 0x106aa070, 0x19a4c116, 0x1e376c08, 0x2748774c, 0x34b0bcb5, 0x391c0cb3, 0x4ed8aa4a, 0x5b9cca4f, 0x682e6ff3, 0x748f82ee, 0x78a5636f, 0x84c87814, 0x8cc70208, 0x90befffa, 0xa4506ceb, 0xbef9a3f7, 0xc67178f2]
theorem K256_length : K256.length = 64 := rfl
abbrev gR : Nat × Option Ent := (gid 2, some ⟨.arr 64 .cell, .u32s K256, false⟩)
def wI (bs : List (BitVec 8)) (o : Nat) : Nat → List (BitVec 32)
  | 0 => List.replicate 64 0
  | t + 1 => (wI bs o t).set t (if t < 16 then (rdI bs (o + 4 * t) 4).setWidth 32 else
      mixW ((wI bs o t).getD ((t : Int) - 2).toNat 0) 17 19 10 + (wI bs o t).getD ((t : Int) - 7).toNat 0 + mixW ((wI bs o t).getD ((t : Int) - 15).toNat 0) 7 18 3 + (wI bs o t).getD ((t : Int) - 16).toNat 0)
theorem wI_length (bs : List (BitVec 8)) (o : Nat) : ∀ t, (wI bs o t).length = 64
  | 0 => rfl
  | t + 1 => by rw [wI, List.length_set, wI_length bs o t]
def oneF (v : List (BitVec 32)) (k w : BitVec 32) : BitVec 32 := v.getD 7 0 + rsF (v.getD 4 0) 6 11 25 + (v.getD 4 0 &&& v.getD 5 0 ||| ~~~(v.getD 4 0) &&& v.getD 6 0) + k + w
def twoF (v : List (BitVec 32)) : BitVec 32 := rsF (v.getD 0 0) 2 13 22 + (v.getD 0 0 &&& v.getD 1 0 ||| v.getD 2 0 &&& (v.getD 0 0 ||| v.getD 1 0))
def vS (v : List (BitVec 32)) (k w : BitVec 32) : List (BitVec 32) :=
  [oneF v k w + twoF v, v.getD 0 0, v.getD 1 0, v.getD 2 0, v.getD 3 0 + oneF v k w, v.getD 4 0, v.getD 5 0, v.getD 6 0]
def vI (w s : List (BitVec 32)) : Nat → List (BitVec 32)
  | 0 => s
  | t + 1 => vS (vI w s t) (K256.getD t 0) (w.getD t 0)
theorem vI_length (w s : List (BitVec 32)) (hs : s.length = 8) : ∀ t, (vI w s t).length = 8
  | 0 => hs
  | t + 1 => rfl
def sumI (s v : List (BitVec 32)) : Nat → List (BitVec 32)
  | 0 => s
  | i + 1 => (sumI s v i).set i ((sumI s v i).getD i 0 + v.getD i 0)
theorem sumI_length (s v : List (BitVec 32)) : ∀ i, (sumI s v i).length = s.length
  | 0 => rfl
  | i + 1 => by rw [sumI, List.length_set, sumI_length s v i]
/-- the state behind a block that begins at o -/
def sbF (s : List (BitVec 32)) (bs : List (BitVec 8)) (o : Nat) : List (BitVec 32) := sumI s (vI (wI bs o 64) s 64) 8
theorem sbF_length (s : List (BitVec 32)) (bs : List (BitVec 8)) (o : Nat) : (sbF s bs o).length = s.length := sumI_length _ _ _
theorem len8 {α : Type} {l : List α} (h : l.length = 8) : ∃ a b c d e f g i, l = [a, b, c, d, e, f, g, i] := by
  match l, h with
  | [a, b, c, d, e, f, g, i], _ => exact ⟨a, b, c, d, e, f, g, i, rfl⟩

abbrev t8 : Ty := .arr 8 .cell
abbrev tH : Ty := .st [t8, .cell, .cell]

abbrev AddC (s : List (BitVec 32)) (bs : List (BitVec 8)) (o : Nat) (T : Ty) (p : Path) (wr : D → D) : Prop :=
  AC Tryd.prog 76 [.ptr 0 p, .slice 1 [] o 64 (some 64)] 3 [(0, some ⟨T, wr (.u32s s), true⟩), (1, some ⟨.row .cell, .u8s bs, false⟩), gR] ⟨.tup [], [(0, some (wr (.u32s (sumI s (vI (wI bs o 64) s 64) 8))))], []⟩
set_option maxHeartbeats 2000000 in
theorem add_acs (s : List (BitVec 32)) (bs : List (BitVec 8)) (o : Nat) (hs : s.length = 8) (ho : o + 64 ≤ bs.length) (hl : bs.length < 9223372036854775808) (n : Int) (ro rl : Nat) (rc : Option Nat) :
    (let T := t8; let p : Path := []; let wr : D → D := fun x => x; AddC s bs o T p wr) ∧
    (let T := tH; let p : Path := [.fld 0]; let wr : D → D := fun x => .node [x, .nilslice, .i64 n]; AddC s bs o T p wr) ∧
    (let T := tH; let p : Path := [.fld 0]; let wr : D → D := fun x => .node [x, .slice 2 [] ro rl rc, .i64 n]; AddC s bs o T p wr) := by
  have hK := K256_length
  refine ⟨?_, ?_, ?_⟩
  all_goals
    intro T p wr
    refine acA tab mix Tryd.func76 {} ?_
    repeat first | refine EffG.mk (obA ?_) | refine obA ?_ | refine chkA ?_
    refine callA (read_ac o 64 (some 64)) [1] ?_
    repeat first | refine EffG.mk (obA ?_) | refine obA ?_ | refine chkA ?_
    refine loopG Nat (fun t => [(0, .ptr 0 p), (4, .ptr 3 []), (5, .ptr 4 []), (15, .i64 t)]) (fun t => [(0, some ⟨T, wr (.u32s s), true⟩), (1, some ⟨.row .cell, .u8s bs, false⟩), (3, some ⟨.arr 64 .cell, .u32s (wI bs o t), true⟩),
      (4, some ⟨tRd, .node [.slice 1 [] (o + 4 * min t 16) (64 - 4 * min t 16) (some (64 - 4 * min t 16)), .i64 0], true⟩), gR]) 5 (fun t => t ≤ 64) (fun t => 64 - t) 0 [0, 1, 2, 3, 4] (Nat.zero_le _) viewA ?_
    intro t ht
    have hw := wI_length bs o t
    repeat first | refine EffG.mk (obA ?_) | refine obA ?_ | refine chkA ?_
    refine Br.split (fun h => ?_) (fun h => ?_)
    · have ht : t < 64 := by have := of_decide_eq_true h; omega
      have hm := wI_length bs o (t + 1)
      repeat first | refine EffG.mk (obA ?_) | refine obA ?_ | refine chkA ?_
      refine Br.split (fun h => ?_) (fun h => ?_)
      · have ht : t < 16 := by have := of_decide_eq_true h; omega
        have e : wI bs o (t + 1) = (wI bs o t).set t ((rdI bs (o + 4 * t) 4).setWidth 32) := by rw [wI, if_pos ht]
        have e1 : min t 16 = t := by omega
        have e2 : min (t + 1) 16 = t + 1 := by omega
        rw [e1]
        repeat first | refine EffG.mk (obA ?_) | refine obA ?_ | refine chkA ?_
        refine callA (u32_ac bs (o + 4 * t) (64 - 4 * t) (some (64 - 4 * t)) (by omega) (by omega) (by omega)) [4, 1] ?_
        repeat first | refine EffG.mk (obA ?_) | refine obA ?_ | refine chkA ?_
        refine nextA (t + 1) [0, 1, 2, 3, 4] (viewA (h3 := ?_))
        rw [e, e2, show o + 4 * (t + 1) = o + 4 * t + 4 by omega, show 64 - 4 * (t + 1) = 64 - 4 * t - 4 by omega]
        exact ⟨⟨_, rfl, rfl, rfl, id⟩, ⟨_, rfl, rfl, rfl, id⟩, ⟨_, rfl, rfl, rfl, id⟩, ⟨_, rfl, rfl, rfl, id⟩, ⟨_, rfl, rfl, rfl, id⟩, trivial⟩
      · have ht : ¬ t < 16 := by have := of_decide_eq_false h; omega
        have e : wI bs o (t + 1) = (wI bs o t).set t (mixW ((wI bs o t).getD ((t : Int) - 2).toNat 0) 17 19 10 + (wI bs o t).getD ((t : Int) - 7).toNat 0 + mixW ((wI bs o t).getD ((t : Int) - 15).toNat 0) 7 18 3 + (wI bs o t).getD ((t : Int) - 16).toNat 0) := by
          rw [wI, if_neg ht]
        have e1 : min t 16 = 16 := by omega
        have e2 : min (t + 1) 16 = 16 := by omega
        rw [e1]
        repeat first | refine EffG.mk (obA ?_) | refine obA ?_ | refine chkA ?_
        refine callA (mix_ac _ 17 19 10 (by decide) (by decide) (by decide)) [] ?_
        repeat first | refine EffG.mk (obA ?_) | refine obA ?_ | refine chkA ?_
        refine callA (mix_ac _ 7 18 3 (by decide) (by decide) (by decide)) [] ?_
        repeat first | refine EffG.mk (obA ?_) | refine obA ?_ | refine chkA ?_
        refine nextA (t + 1) [0, 1, 2, 3, 4] (viewA (h3 := ?_))
        rw [e, e2]
        exact ⟨⟨_, rfl, rfl, rfl, id⟩, ⟨_, rfl, rfl, rfl, id⟩, ⟨_, rfl, rfl, rfl, id⟩, ⟨_, rfl, rfl, rfl, id⟩, ⟨_, rfl, rfl, rfl, id⟩, trivial⟩
    · obtain rfl : t = 64 := by have := of_decide_eq_false h; omega
      generalize wI bs o 64 = w at hw ⊢
      repeat first | refine EffG.mk (obA ?_) | refine obA ?_ | refine chkA ?_
      refine loopG Nat (fun t => [(0, .ptr 0 p), (4, .ptr 3 []), (7, .ptr 4 []), (51, .i64 t)]) (fun t => [(0, some ⟨T, wr (.u32s s), true⟩), (1, some ⟨.row .cell, .u8s bs, false⟩), (3, some ⟨.arr 64 .cell, .u32s w, true⟩),
        (4, some ⟨t8, .u32s (vI w s t), true⟩), gR]) 5 (fun t => t ≤ 64) (fun t => 64 - t) 0 [0, 1, 2, 3, 5] (Nat.zero_le _) viewA ?_
      intro t ht
      have hv := vI_length w s hs t
      repeat first | refine EffG.mk (obA ?_) | refine obA ?_ | refine chkA ?_
      refine Br.split (fun h => ?_) (fun h => ?_)
      · have ht : t < 64 := by have := of_decide_eq_true h; omega
        have e : vI w s (t + 1) = vS (vI w s t) (K256.getD t 0) (w.getD t 0) := rfl
        generalize vI w s t = v at hv e ⊢
        obtain ⟨v0, v1, v2, v3, v4, v5, v6, v7, rfl⟩ := len8 hv
        repeat first | refine EffG.mk (obA ?_) | refine obA ?_ | refine chkA ?_
        refine callA (rturn_ac _ 6 11 25 (by decide) (by decide) (by decide)) [] ?_
        repeat first | refine EffG.mk (obA ?_) | refine obA ?_ | refine chkA ?_
        refine callA (rturn_ac _ 2 13 22 (by decide) (by decide) (by decide)) [] ?_
        repeat first | refine EffG.mk (obA ?_) | refine obA ?_ | refine chkA ?_
        refine nextA (t + 1) [0, 1, 2, 3, 4] (viewA (h3 := ?_))
        rw [e]
        exact ⟨⟨_, rfl, rfl, rfl, id⟩, ⟨_, rfl, rfl, rfl, id⟩, ⟨_, rfl, rfl, rfl, id⟩, ⟨_, rfl, rfl, rfl, id⟩, ⟨_, rfl, rfl, rfl, id⟩, trivial⟩
      · obtain rfl : t = 64 := by have := of_decide_eq_false h; omega
        generalize vI w s 64 = v at hv ⊢
        repeat first | refine EffG.mk (obA ?_) | refine obA ?_ | refine chkA ?_
        refine loopG Nat (fun i => [(0, .ptr 0 p), (112, .u32s v), (113, .i64 i)]) (fun i => [(0, some ⟨T, wr (.u32s (sumI s v i)), true⟩), (1, some ⟨.row .cell, .u8s bs, false⟩), gR]) 3 (fun i => i ≤ 8) (fun i => 8 - i) 0 [0, 1, 2] (Nat.zero_le _) viewA ?_
        intro i hi
        have hs2 := sumI_length s v i
        repeat first | refine EffG.mk (obA ?_) | refine obA ?_ | refine chkA ?_
        refine Br.split (fun h => ?_) (fun h => ?_)
        · have hi : i < 8 := by have := of_decide_eq_true h; omega
          repeat first | refine EffG.mk (obA ?_) | refine obA ?_ | refine chkA ?_
          refine nextA (i + 1) [0, 1, 2] viewA
        · obtain rfl : i = 8 := by have := of_decide_eq_false h; omega
          repeat first | refine EffG.mk (obA ?_) | refine obA ?_ | refine chkA ?_
          refine retA [0, 1, 2]
end Go.Proofs.YtljkjdhkofbgmaaDoor.Av

namespace Go.Proofs.YtljkjdhkofbgmaaDoor.Av
open Go
set_option linter.all false
set_option maxRecDepth 3000

def nbI (n : BitVec 64) (k : Nat) : Nat → List (BitVec 8) × BitVec 64
  | 0 => (List.replicate k 0, n)
  | i + 1 => ((nbI n k i).1.set ((k : Int) - 1 - (i : Int)).toNat ((nbI n k i).2.setWidth 8), (nbI n k i).2 >>> 8)
theorem nbI_length (n : BitVec 64) (k : Nat) : ∀ i, (nbI n k i).1.length = k
  | 0 => List.length_replicate
  | i + 1 => by rw [nbI, List.length_set, nbI_length n k i]
def nbF (n : BitVec 64) (k : Nat) : List (BitVec 8) := (nbI n k k).1
theorem nbF_length (n : BitVec 64) (k : Nat) : (nbF n k).length = k := nbI_length n k k

theorem put_ac (n : BitVec 64) (k : Nat) (hk : k ≤ 1000) : AC Tryd.prog 87 [.u64 n, .i64 k] 0 [] ⟨.slice 0 [] 0 k none, [], [(.row .cell, .u8s (nbF n k))]⟩ := by
  refine acA tab mix Tryd.func87 {} ?_
  repeat first | refine EffG.mk (obA ?_) | refine obA ?_ | refine chkA ?_
  refine loopG Nat (fun i => [(0, .u64 (nbI n k i).2), (1, .i64 k), (5, .slice 0 [] 0 k none), (10, .i64 k), (11, .i64 i)]) (fun i => [(0, some ⟨.row .cell, .u8s (nbI n k i).1, true⟩)]) 1 (fun i => i ≤ k) (fun i => k - i) 0 [0] (Nat.zero_le _) viewA ?_
  intro i hi
  have hl := nbI_length n k i
  repeat first | refine EffG.mk (obA ?_) | refine obA ?_ | refine chkA ?_
  refine Br.split (fun h => ?_) (fun h => ?_)
  · have hi : i < k := by have := of_decide_eq_true h; omega
    repeat first | refine EffG.mk (obA ?_) | refine obA ?_ | refine chkA ?_
    refine nextA (i + 1) [0] viewA
  · obtain rfl : i = k := by have := of_decide_eq_false h; omega
    repeat first | refine EffG.mk (obA ?_) | refine obA ?_ | refine chkA ?_
    refine retA [0]
theorem put32_ac (n : BitVec 32) : AC Tryd.prog 79 [.u32 n] 0 [] ⟨.slice 0 [] 0 4 none, [], [(.row .cell, .u8s (nbF (n.setWidth 64) 4))]⟩ := by
  refine acA tab mix Tryd.func79 {} ?_
  repeat first | refine EffG.mk (obA ?_) | refine obA ?_ | refine chkA ?_
  refine callA (put_ac (n.setWidth 64) 4 (by decide)) [] ?_
  repeat first | refine EffG.mk (obA ?_) | refine obA ?_ | refine chkA ?_
  refine retA [0]
theorem put64_ac (n : BitVec 64) : AC Tryd.prog 78 [.u64 n] 0 [] ⟨.slice 0 [] 0 8 none, [], [(.row .cell, .u8s (nbF n 8))]⟩ := by
  refine acA tab mix Tryd.func78 {} ?_
  repeat first | refine EffG.mk (obA ?_) | refine obA ?_ | refine chkA ?_
  refine callA (put_ac n 8 (by decide)) [] ?_
  repeat first | refine EffG.mk (obA ?_) | refine obA ?_ | refine chkA ?_
  refine retA [0]

theorem clone_ac (bs : List (BitVec 8)) (o k : Nat) (cap : Option Nat) (h : o + k ≤ bs.length) (hk : k ≤ 70368744177664) :
    AC Tryd.prog 77 [.slice 0 [] o k cap] 1 [(0, some ⟨.row .cell, .u8s bs, false⟩)] ⟨.slice 1 [] 0 k none, [], [(.row .cell, .u8s ((bs.drop o).take k))]⟩ := by
  refine acA tab mix Tryd.func77 {} ?_
  repeat first | refine EffG.mk (obA ?_) | refine obA ?_ | refine chkA ?_ | refine brY ?_ | refine brN ?_
  refine ⟨0, ?_⟩
  repeat first | refine EffG.mk (obA ?_) | refine obA ?_ | refine chkA ?_
  refine retA [0, 2]

theorem grow_ac (k : Int) (h0 : 0 < k) (hk : k ≤ 140737488355328) : AC Tryd.prog 82 [.nilslice, .i64 k] 0 [] ⟨.slice 0 [] 0 0 none, [], [(.row .cell, .u8s (List.replicate (k - (0 - 0)).toNat 0))]⟩ := by
  refine acA tab mix Tryd.func82 {} ?_
  repeat first | refine EffG.mk (obA ?_) | refine obA ?_ | refine chkA ?_ | refine brY ?_ | refine brN ?_
  refine ⟨0, ?_⟩
  repeat first | refine EffG.mk (obA ?_) | refine obA ?_ | refine chkA ?_
  refine retA [0]

theorem drop0 {α : Type} (l : List α) : l.drop 0 = l := rfl
/-- nothing, and some bytes -/
theorem concat_nil_ac (bs : List (BitVec 8)) (o k : Nat) (cap : Option Nat) (h : o + k ≤ bs.length) (h0 : 0 < k) (hk : k ≤ 70368744177664) :
    AC Tryd.prog 75 [.slice 0 [] 0 2 (some 2)] 2 [(0, some ⟨.row .cell, .node [.nilslice, .slice 1 [] o k cap], true⟩), (1, some ⟨.row .cell, .u8s bs, false⟩)] ⟨.slice 2 [] 0 k none, [], [(.row .cell, .u8s ((bs.drop o).take k))]⟩ := by
  refine acA tab mix Tryd.func75 ⟨[], [3, 11]⟩ ?_
  repeat first | refine EffG.mk (obA ?_) | refine obA ?_ | refine chkA ?_
  refine unrG 3 ?_
  repeat first | refine EffG.mk (obA ?_) | refine obA ?_ | refine chkA ?_ | refine brY ?_ | refine brN ?_
  refine callA (grow_ac (0 + 0 + (k : Int)) (by omega) (by omega)) [] ?_
  repeat first | refine EffG.mk (obA ?_) | refine obA ?_ | refine chkA ?_
  refine unrG 3 ?_
  repeat first | refine EffG.mk (obA ?_) | refine obA ?_ | refine chkA ?_ | refine brY ?_ | refine brN ?_
  refine ⟨0, ?_⟩
  repeat first | refine EffG.mk (obA ?_) | refine obA ?_ | refine chkA ?_ | refine brY ?_ | refine brN ?_
  refine ⟨0, ?_⟩
  repeat first | refine EffG.mk (obA ?_) | refine obA ?_ | refine chkA ?_ | refine brY ?_ | refine brN ?_
  refine retA [0, 1, 4]

/-- some bytes, perhaps none, and some more -/
theorem concat_ac (ss bs : List (BitVec 8)) (r a o k : Nat) (rc cap : Option Nat) (ha : r + a ≤ ss.length) (h : o + k ≤ bs.length) (h0 : 0 < k) (hk : a + k ≤ 70368744177664) :
    AC Tryd.prog 75 [.slice 0 [] 0 2 (some 2)] 3 [(0, some ⟨.row .cell, .node [.slice 2 [] r a rc, .slice 1 [] o k cap], true⟩), (1, some ⟨.row .cell, .u8s bs, false⟩), (2, some ⟨.row .cell, .u8s ss, false⟩)]
      ⟨.slice 3 [] 0 (a + k) none, [], [(.row .cell, .u8s ((ss.drop r).take a ++ (bs.drop o).take k))]⟩ := by
  have hl : ((ss.drop r).take a).length = a := by rw [List.length_take, List.length_drop]; omega
  have ht : (List.take a ((ss.drop r).take a)) = (ss.drop r).take a := List.take_of_length_le (by omega)
  refine acA tab mix Tryd.func75 ⟨[], [3, 11]⟩ ?_
  repeat first | refine EffG.mk (obA ?_) | refine obA ?_ | refine chkA ?_
  refine unrG 3 ?_
  repeat first | refine EffG.mk (obA ?_) | refine obA ?_ | refine chkA ?_ | refine brY ?_ | refine brN ?_
  refine callA (grow_ac (0 + a + (k : Int)) (by omega) (by omega)) [] ?_
  repeat first | refine EffG.mk (obA ?_) | refine obA ?_ | refine chkA ?_
  refine unrG 3 ?_
  repeat first | refine EffG.mk (obA ?_) | refine obA ?_ | refine chkA ?_ | refine brY ?_ | refine brN ?_
  refine ⟨0, ?_⟩
  repeat first | refine EffG.mk (obA ?_) | refine obA ?_ | refine chkA ?_ | refine brY ?_ | refine brN ?_
  refine ⟨0, ?_⟩
  repeat first | refine EffG.mk (obA ?_) | refine obA ?_ | refine chkA ?_ | refine brY ?_ | refine brN ?_
  refine retA [0, 1, 2, 5] (h3 := ?_)
  refine ⟨⟨_, rfl, rfl, congrArg D.u8s ?_, id⟩, ⟨_, rfl, rfl, rfl, id⟩, ⟨_, rfl, rfl, rfl, id⟩, ⟨_, rfl, rfl, rfl, id⟩, trivial⟩
  exact congrArg (· ++ (bs.drop o).take k) ((congrArg (fun n => List.take n ((ss.drop r).take a)) (Nat.zero_add a)).trans ht)
end Go.Proofs.YtljkjdhkofbgmaaDoor.Av

namespace Go.Proofs.YtljkjdhkofbgmaaDoor.Av
open Go
set_option linter.all false
set_option maxRecDepth 3000

/-- the state behind some blocks -/
def shaI (s : List (BitVec 32)) (c : List (BitVec 8)) : Nat → List (BitVec 32)
  | 0 => s
  | j + 1 => sbF (shaI s c j) c (64 * j)
theorem shaI_length (s : List (BitVec 32)) (c : List (BitVec 8)) : ∀ j, (shaI s c j).length = s.length
  | 0 => rfl
  | j + 1 => by rw [shaI, sbF_length, shaI_length s c j]

def H0 : List (BitVec 32) := [0x6a09e667, 0xbb67ae85, 0x3c6ef372, 0xa54ff53a, 0x510e527f, 0x9b05688c, 0x1f83d9ab, 0x5be0cd19]
theorem first_sha_ac : AC Tryd.prog 74 [] 0 [] ⟨.u32s H0, [], []⟩ := by
  refine acA tab mix Tryd.func74 {} ?_
  repeat first | refine EffG.mk (obA ?_) | refine obA ?_ | refine chkA ?_
  refine retA []
theorem shanew_ac : AC Tryd.prog 65 [] 0 [] ⟨.ptr 0 [], [], [(tH, .node [.u32s H0, .nilslice, .i64 0])]⟩ := by
  refine acA tab mix Tryd.func65 {} ?_
  repeat first | refine EffG.mk (obA ?_) | refine obA ?_ | refine chkA ?_
  refine callA first_sha_ac [] ?_
  have h : H0.length = 8 := rfl
  generalize H0 = s at h ⊢
  repeat first | refine EffG.mk (obA ?_) | refine obA ?_ | refine chkA ?_
  refine retA [0]

theorem write_nil_ac (s : List (BitVec 32)) (n : Int) (bs : List (BitVec 8)) (o k : Nat) (cap : Option Nat) (hs : s.length = 8) (hn : 0 ≤ n ∧ n < 4611686018427387904) (h : o + k ≤ bs.length) (h0 : 0 < k) (hk : k ≤ 70368744177664) :
    AC Tryd.prog 66 [.ptr 0 [], .slice 1 [] o k cap] 2 [(0, some ⟨tH, .node [.u32s s, .nilslice, .i64 n], true⟩), (1, some ⟨.row .cell, .u8s bs, false⟩), gR]
      ⟨.i64 0, [(0, some (.node [.u32s (shaI s ((bs.drop o).take k) (k / 64)), .slice 2 [] (64 * (k / 64)) (k - 64 * (k / 64)) none, .i64 (n + k)]))], [(.row .cell, .u8s ((bs.drop o).take k))]⟩ := by
  have hl : ((bs.drop o).take k).length = k := by rw [List.length_take, List.length_drop]; omega
  refine acA tab mix Tryd.func66 {} ?_
  repeat first | refine EffG.mk (obA ?_) | refine obA ?_ | refine chkA ?_ | refine brY ?_ | refine brN ?_
  refine callA (concat_nil_ac bs o k cap h h0 hk) [2, 1] ?_
  generalize (bs.drop o).take k = c at hl ⊢
  repeat first | refine EffG.mk (obA ?_) | refine obA ?_ | refine chkA ?_
  refine loopG Nat (fun j => [(0, .ptr 0 []), (1, .slice 2 [] (64 * j) (k - 64 * j) none)]) (fun j => [(0, some ⟨tH, .node [.u32s (shaI s c j), .nilslice, .i64 (n + k)], true⟩), (1, some ⟨.row .cell, .u8s bs, false⟩), (2, some ⟨.row .cell, .u8s c, true⟩), gR]) 3
    (fun j => j ≤ k / 64) (fun j => k / 64 - j) 0 [0, 1, 3] (Nat.zero_le _) viewA ?_
  intro j hj
  have hsl := shaI_length s c j
  rw [hs] at hsl
  repeat first | refine EffG.mk (obA ?_) | refine obA ?_ | refine chkA ?_
  refine Br.split (fun h => ?_) (fun h => ?_)
  · have hj : 64 * j + 64 ≤ k := by have := of_decide_eq_true h; omega
    have e : shaI s c (j + 1) = sbF (shaI s c j) c (64 * j) := rfl
    have ha := (add_acs (shaI s c j) c (64 * j) hsl (by omega) (by omega) (n + k) 0 0 none).2.1
    generalize shaI s c j = x at hsl e ha ⊢
    repeat first | refine EffG.mk (obA ?_) | refine obA ?_ | refine chkA ?_
    refine callA ha [0, 2] ?_
    repeat first | refine EffG.mk (obA ?_) | refine obA ?_ | refine chkA ?_
    refine nextA (j + 1) [0, 1, 2] (viewA (h2 := ?_) (h3 := ?_))
    · rw [show 64 * (j + 1) = 64 * j + 64 by omega, show k - (64 * j + 64) = k - 64 * j - 64 by omega]
      exact ⟨rfl, rfl, trivial⟩
    · rw [e]
      exact ⟨⟨_, rfl, rfl, rfl, id⟩, ⟨_, rfl, rfl, rfl, id⟩, ⟨_, rfl, rfl, rfl, id⟩, ⟨_, rfl, rfl, rfl, id⟩, trivial⟩
  · obtain rfl : j = k / 64 := by have := of_decide_eq_false h; omega
    repeat first | refine EffG.mk (obA ?_) | refine obA ?_ | refine chkA ?_
    refine retA [0, 1, 2]

theorem write_ac (s : List (BitVec 32)) (n : Int) (ss bs : List (BitVec 8)) (r a o k : Nat) (rc cap : Option Nat) (hs : s.length = 8) (hn : 0 ≤ n ∧ n < 4611686018427387904) (ha : r + a ≤ ss.length) (h : o + k ≤ bs.length) (h0 : 0 < k) (hk : a + k ≤ 70368744177664) :
    AC Tryd.prog 66 [.ptr 0 [], .slice 1 [] o k cap] 3 [(0, some ⟨tH, .node [.u32s s, .slice 2 [] r a rc, .i64 n], true⟩), (1, some ⟨.row .cell, .u8s bs, false⟩), (2, some ⟨.row .cell, .u8s ss, true⟩), gR]
      ⟨.i64 0, [(0, some (.node [.u32s (shaI s ((ss.drop r).take a ++ (bs.drop o).take k) ((a + k) / 64)), .slice 3 [] (64 * ((a + k) / 64)) (a + k - 64 * ((a + k) / 64)) none, .i64 (n + k)]))],
        [(.row .cell, .u8s ((ss.drop r).take a ++ (bs.drop o).take k))]⟩ := by
  have hl : ((ss.drop r).take a ++ (bs.drop o).take k).length = a + k := by rw [List.length_append, List.length_take, List.length_drop, List.length_take, List.length_drop]; omega
  refine acA tab mix Tryd.func66 {} ?_
  repeat first | refine EffG.mk (obA ?_) | refine obA ?_ | refine chkA ?_ | refine brY ?_ | refine brN ?_
  refine callA (concat_ac ss bs r a o k rc cap ha h h0 hk) [3, 1, 2] ?_
  generalize (ss.drop r).take a ++ (bs.drop o).take k = c at hl ⊢
  repeat first | refine EffG.mk (obA ?_) | refine obA ?_ | refine chkA ?_
  refine loopG Nat (fun j => [(0, .ptr 0 []), (1, .slice 3 [] (64 * j) (a + k - 64 * j) none)]) (fun j => [(0, some ⟨tH, .node [.u32s (shaI s c j), .slice 2 [] r a rc, .i64 (n + k)], true⟩), (1, some ⟨.row .cell, .u8s bs, false⟩),
    (2, some ⟨.row .cell, .u8s ss, true⟩), (3, some ⟨.row .cell, .u8s c, true⟩), gR]) 4
    (fun j => j ≤ (a + k) / 64) (fun j => (a + k) / 64 - j) 0 [0, 1, 2, 4] (Nat.zero_le _) viewA ?_
  intro j hj
  have hsl := shaI_length s c j
  rw [hs] at hsl
  repeat first | refine EffG.mk (obA ?_) | refine obA ?_ | refine chkA ?_
  refine Br.split (fun h => ?_) (fun h => ?_)
  · have hj : 64 * j + 64 ≤ a + k := by have := of_decide_eq_true h; omega
    have e : shaI s c (j + 1) = sbF (shaI s c j) c (64 * j) := rfl
    have ha := (add_acs (shaI s c j) c (64 * j) hsl (by omega) (by omega) (n + k) r a rc).2.2
    generalize shaI s c j = x at hsl e ha ⊢
    repeat first | refine EffG.mk (obA ?_) | refine obA ?_ | refine chkA ?_
    refine callA ha [0, 3, 2] ?_
    repeat first | refine EffG.mk (obA ?_) | refine obA ?_ | refine chkA ?_
    refine nextA (j + 1) [0, 1, 2, 3] (viewA (h2 := ?_) (h3 := ?_))
    · rw [show 64 * (j + 1) = 64 * j + 64 by omega, show a + k - (64 * j + 64) = a + k - 64 * j - 64 by omega]
      exact ⟨rfl, rfl, trivial⟩
    · rw [e]
      exact ⟨⟨_, rfl, rfl, rfl, id⟩, ⟨_, rfl, rfl, rfl, id⟩, ⟨_, rfl, rfl, rfl, id⟩, ⟨_, rfl, rfl, rfl, id⟩, ⟨_, rfl, rfl, rfl, id⟩, trivial⟩
  · obtain rfl : j = (a + k) / 64 := by have := of_decide_eq_false h; omega
    repeat first | refine EffG.mk (obA ?_) | refine obA ?_ | refine chkA ?_
    refine retA [0, 1, 2, 3]

/-! the sum -/
def outI (s : List (BitVec 32)) : Nat → List (BitVec 8)
  | 0 => List.replicate 32 0
  | i + 1 => (outI s i).take (4 * i) ++ nbF ((s.getD i 0).setWidth 64) 4 ++ (outI s i).drop (4 * i + 4)
theorem outI_length (s : List (BitVec 32)) : ∀ i, i ≤ 8 → (outI s i).length = 32
  | 0, _ => rfl
  | i + 1, h => by rw [outI, List.length_append, List.length_append, List.length_take, List.length_drop, outI_length s i (by omega), nbF_length]; omega
/-- how many noughts -/
def zN (a : Nat) : Nat := (119 - a % 64) % 64
def padI (c : List (BitVec 8)) (j : Nat) : List (BitVec 8) := c ++ 128 :: List.replicate j 0
def padF (c : List (BitVec 8)) (n : Int) : List (BitVec 8) := padI c (zN c.length) ++ nbF (BitVec.ofInt 64 n * 8) 8
theorem zN_mod (a : Nat) : (a + 1 + zN a) % 64 = 56 := by unfold zN; omega
theorem padI_length (c : List (BitVec 8)) (j : Nat) : (padI c j).length = c.length + 1 + j := by
  simp only [padI, List.length_append, List.length_cons, List.length_replicate]; omega
theorem padI_succ (c : List (BitVec 8)) (j : Nat) : padI c (j + 1) = padI c j ++ [0] := by
  simp only [padI, List.replicate_succ', List.cons_append, List.append_assoc]
theorem padF_length (c : List (BitVec 8)) (n : Int) : (padF c n).length = c.length + 9 + zN c.length := by
  rw [padF, List.length_append, padI_length, nbF_length]; omega
def sumF (s : List (BitVec 32)) (c : List (BitVec 8)) (n : Int) : List (BitVec 8) := outI (shaI s (padF c n) ((padF c n).length / 64)) 8
theorem sumF_length (s : List (BitVec 32)) (c : List (BitVec 8)) (n : Int) : (sumF s c n).length = 32 := outI_length _ 8 (Nat.le_refl _)

theorem sum_ac (s : List (BitVec 32)) (n : Int) (ss : List (BitVec 8)) (r a : Nat) (rc : Option Nat) (hs : s.length = 8) (hn : 0 ≤ n ∧ n < 4611686018427387904) (ha : r + a ≤ ss.length) (hk : a ≤ 35184372088832) :
    AC Tryd.prog 67 [.ptr 0 []] 2 [(0, some ⟨tH, .node [.u32s s, .slice 1 [] r a rc, .i64 n], true⟩), (1, some ⟨.row .cell, .u8s ss, true⟩), gR] ⟨.u8s (sumF s ((ss.drop r).take a) n), [], []⟩ := by
  have hl : ((ss.drop r).take a).length = a := by rw [List.length_take, List.length_drop]; omega
  have hS : sumF s ((ss.drop r).take a) n = outI (shaI s (padF ((ss.drop r).take a) n) ((padF ((ss.drop r).take a) n).length / 64)) 8 := rfl
  have hP : padF ((ss.drop r).take a) n = padI ((ss.drop r).take a) (zN a) ++ nbF (BitVec.ofInt 64 n * 8) 8 := by rw [padF, hl]
  have hPl := padF_length ((ss.drop r).take a) n
  rw [hl] at hPl
  have hz := zN_mod a
  have hz2 : zN a < 64 := Nat.mod_lt _ (by decide)
  refine acA tab mix Tryd.func67 {} ?_
  repeat first | refine EffG.mk (obA ?_) | refine obA ?_ | refine chkA ?_ | refine brY ?_ | refine brN ?_
  refine callA (clone_ac ss r a rc ha (by omega)) [1] ?_
  generalize (ss.drop r).take a = c at *
  have ht : List.take a c = c := List.take_of_length_le (by omega)
  repeat first | refine EffG.mk (obA ?_) | refine obA ?_ | refine chkA ?_
  refine ⟨0, ?_⟩
  repeat first | refine EffG.mk (obA ?_) | refine obA ?_ | refine chkA ?_
  refine loopG Nat (fun j => [(0, .ptr 0 []), (2, .ptr 2 []), (3, .ptr 3 []), (4, .slice 4 [] 0 (a + 1 + j) none)]) (fun j => [(0, some ⟨tH, .node [.u32s s, .slice 1 [] r a rc, .i64 n], true⟩), (1, some ⟨.row .cell, .u8s ss, true⟩),
    (2, some ⟨.arr 32 .cell, .u8s (List.replicate 32 0), true⟩), (3, some ⟨.arr 32 .cell, .u8s (List.replicate 32 0), true⟩), (4, some ⟨.row .cell, .u8s (padI c j), true⟩), gR]) 5
    (fun j => j ≤ zN a) (fun j => zN a - j) 0 [0, 1, 2, 3, 6] (Nat.zero_le _) (viewA (h3 := ?_)) ?_
  · exact ⟨⟨_, rfl, rfl, rfl, id⟩, ⟨_, rfl, rfl, rfl, id⟩, ⟨_, rfl, rfl, rfl, id⟩, ⟨_, rfl, rfl, rfl, id⟩, ⟨_, rfl, rfl, congrArg (fun x => D.u8s (x ++ [128])) ht, id⟩, ⟨_, rfl, rfl, rfl, id⟩, trivial⟩
  intro j hj
  have hpl := padI_length c j
  rw [hl] at hpl
  have q : Int.tmod ((a + 1 + j : Nat) : Int) 64 = (((a + 1 + j) % 64 : Nat) : Int) := (Int.ofNat_tmod (a + 1 + j) 64).symm
  repeat first | rw [q] | refine EffG.mk (obA ?_) | refine obA ?_ | refine chkA ?_
  refine Br.split (fun h => ?_) (fun h => ?_)
  · have hj : j < zN a := by
      have h1 : ¬ (((a + 1 + j) % 64 : Nat) : Int) = 56 := by simpa only [Bool.not_eq_true', decide_eq_false_iff_not] using h
      rcases Nat.lt_or_ge j (zN a) with h | h
      · exact h
      · exfalso; obtain rfl : j = zN a := by omega
        omega
    have e := padI_succ c j
    generalize padI c j = x at hpl e ⊢
    repeat first | refine EffG.mk (obA ?_) | refine obA ?_ | refine chkA ?_
    refine ⟨0, ?_⟩
    repeat first | refine EffG.mk (obA ?_) | refine obA ?_ | refine chkA ?_
    refine nextA (j + 1) [0, 1, 2, 3, 6] (viewA (h3 := ?_))
    rw [e]
    exact ⟨⟨_, rfl, rfl, rfl, id⟩, ⟨_, rfl, rfl, rfl, id⟩, ⟨_, rfl, rfl, rfl, id⟩, ⟨_, rfl, rfl, rfl, id⟩, ⟨_, rfl, rfl, congrArg (fun x => D.u8s (x ++ [0])) (show List.take (a + 1 + j) x = x from List.take_of_length_le (by omega)), id⟩, ⟨_, rfl, rfl, rfl, id⟩, trivial⟩
  · obtain rfl : j = zN a := by
      have h1 : (((a + 1 + j) % 64 : Nat) : Int) = 56 := by simpa only [Bool.not_eq_false', decide_eq_true_eq] using h
      unfold zN at hj hz ⊢; omega
    repeat first | refine EffG.mk (obA ?_) | refine obA ?_ | refine chkA ?_
    refine callA (put64_ac (BitVec.ofInt 64 n * 8)) [] ?_
    have hpp := nbF_length (BitVec.ofInt 64 n * 8) 8
    repeat first | refine EffG.mk (obA ?_) | refine obA ?_ | refine chkA ?_
    refine ⟨0, ?_⟩
    repeat first | refine EffG.mk (obA ?_) | refine obA ?_ | refine chkA ?_
    have hC : List.take (a + 1 + zN a) (padI c (zN a)) ++ List.take 8 (nbF (BitVec.ofInt 64 n * 8) 8) = padF c n := by rw [hP, List.take_of_length_le (by omega), List.take_of_length_le (by omega)]
    have hz3 : (a + 1 + zN a + 8) % 64 = 0 := by omega
    generalize padF c n = P at hC hPl hS
    rw [show a + 9 + zN a = a + 1 + zN a + 8 by omega] at hPl
    refine loopG Nat (fun j => [(2, .ptr 2 []), (3, .ptr 3 []), (4, .slice 4 [] (64 * j) (a + 1 + zN a + 8 - 64 * j) none), (5, .ptr 5 [])]) (fun j => [(0, some ⟨tH, .node [.u32s s, .slice 1 [] r a rc, .i64 n], true⟩), (1, some ⟨.row .cell, .u8s ss, true⟩),
      (2, some ⟨.arr 32 .cell, .u8s (List.replicate 32 0), true⟩), (3, some ⟨.arr 32 .cell, .u8s (List.replicate 32 0), true⟩), (4, some ⟨.row .cell, .u8s P, true⟩), (5, some ⟨t8, .u32s (shaI s P j), true⟩), gR]) 6
      (fun j => j ≤ P.length / 64) (fun j => P.length / 64 - j) 0 [0, 1, 2, 3, 6, 7] (Nat.zero_le _) (viewA (h3 := ?_)) ?_
    · exact ⟨⟨_, rfl, rfl, rfl, id⟩, ⟨_, rfl, rfl, rfl, id⟩, ⟨_, rfl, rfl, rfl, id⟩, ⟨_, rfl, rfl, rfl, id⟩, ⟨_, rfl, rfl, congrArg D.u8s hC, id⟩, ⟨_, rfl, rfl, rfl, id⟩, ⟨_, rfl, rfl, rfl, id⟩, trivial⟩
    have hL : a + 1 + zN a + 8 < 70368744177664 := by omega
    generalize a + 1 + zN a + 8 = L at hPl hz3 hL ⊢
    intro j hj
    have hsl := shaI_length s P j
    rw [hs] at hsl
    repeat first | refine EffG.mk (obA ?_) | refine obA ?_ | refine chkA ?_
    refine Br.split (fun h => ?_) (fun h => ?_)
    · have hj : 64 * j + 64 ≤ L := by have := of_decide_eq_true h; omega
      have e : shaI s P (j + 1) = sbF (shaI s P j) P (64 * j) := rfl
      have ha := (add_acs (shaI s P j) P (64 * j) hsl (by omega) (by omega) 0 0 0 none).1
      generalize shaI s P j = x at hsl e ha ⊢
      repeat first | refine EffG.mk (obA ?_) | refine obA ?_ | refine chkA ?_
      refine callA ha [5, 4] ?_
      repeat first | refine EffG.mk (obA ?_) | refine obA ?_ | refine chkA ?_
      refine nextA (j + 1) [0, 1, 2, 3, 4, 5] (viewA (h2 := ?_) (h3 := ?_))
      · rw [show 64 * (j + 1) = 64 * j + 64 by omega, show L - (64 * j + 64) = L - 64 * j - 64 by omega]
        exact ⟨rfl, rfl, rfl, rfl, trivial⟩
      · rw [e]
        exact ⟨⟨_, rfl, rfl, rfl, id⟩, ⟨_, rfl, rfl, rfl, id⟩, ⟨_, rfl, rfl, rfl, id⟩, ⟨_, rfl, rfl, rfl, id⟩, ⟨_, rfl, rfl, rfl, id⟩, ⟨_, rfl, rfl, rfl, id⟩, ⟨_, rfl, rfl, rfl, id⟩, trivial⟩
    · obtain rfl : j = P.length / 64 := by have := of_decide_eq_false h; omega
      generalize shaI s P (P.length / 64) = x at hsl hS ⊢
      repeat first | refine EffG.mk (obA ?_) | refine obA ?_ | refine chkA ?_
      refine loopG Nat (fun i => [(2, .ptr 2 []), (3, .ptr 3 []), (46, .u32s x), (47, .i64 i)]) (fun i => [(0, some ⟨tH, .node [.u32s s, .slice 1 [] r a rc, .i64 n], true⟩), (1, some ⟨.row .cell, .u8s ss, true⟩),
        (2, some ⟨.arr 32 .cell, .u8s (List.replicate 32 0), true⟩), (3, some ⟨.arr 32 .cell, .u8s (outI x i), true⟩), gR]) 4 (fun i => i ≤ 8) (fun i => 8 - i) 0 [0, 1, 2, 3] (Nat.zero_le _) viewA ?_
      intro i hi
      have hol := outI_length x i hi
      repeat first | refine EffG.mk (obA ?_) | refine obA ?_ | refine chkA ?_
      refine Br.split (fun h => ?_) (fun h => ?_)
      · have hi : i < 8 := by have := of_decide_eq_true h; omega
        have e : outI x (i + 1) = (outI x i).take (4 * i) ++ nbF ((x.getD i 0).setWidth 64) 4 ++ (outI x i).drop (4 * i + 4) := rfl
        have hpp := nbF_length ((x.getD i 0).setWidth 64) 4
        repeat first | refine EffG.mk (obA ?_) | refine obA ?_ | refine chkA ?_
        refine callA (put32_ac (x.getD i 0)) [] ?_
        have q1 : Nat.min 4 ((Option.getD none ((32 : Nat) : Int)).toNat - ((some (4 * (i : Int))).getD 0).toNat) = 4 := by rw [natMin]; simp only [Option.getD]; omega
        have q2 : ((some (4 * (i : Int))).getD 0).toNat = 4 * i := by simp only [Option.getD]; omega
        generalize nbF ((x.getD i 0).setWidth 64) 4 = y at e hpp ⊢
        generalize outI x i = z at e hol ⊢
        repeat first | rw [q1, q2] | refine EffG.mk (obA ?_) | refine obA ?_ | refine chkA ?_
        refine nextA (i + 1) [0, 1, 2, 3] (viewA (h3 := ?_))
        rw [e]
        exact ⟨⟨_, rfl, rfl, rfl, id⟩, ⟨_, rfl, rfl, rfl, id⟩, ⟨_, rfl, rfl, rfl, id⟩, ⟨_, rfl, rfl, congrArg (fun l => D.u8s (z.take (4 * i) ++ l ++ z.drop (4 * i + 4))) (show List.take 4 y = y from List.take_of_length_le (by omega)), id⟩, ⟨_, rfl, rfl, rfl, id⟩, trivial⟩
      · obtain rfl : i = 8 := by have := of_decide_eq_false h; omega
        repeat first | refine EffG.mk (obA ?_) | refine obA ?_ | refine chkA ?_
        refine retA [0, 1] (h1 := congrArg D.u8s hS.symm)
end Go.Proofs.YtljkjdhkofbgmaaDoor.Av

namespace Go.Proofs.YtljkjdhkofbgmaaDoor.Av
open Go
set_option linter.all false
set_option maxRecDepth 3000

/-! a message in pieces -/
theorem rdI_congr {bs cs : List (BitVec 8)} {o p : Nat} : ∀ {k : Nat}, (∀ i, i < k → bs.getD (o + i) 0 = cs.getD (p + i) 0) → rdI bs o k = rdI cs p k
  | 0, _ => rfl
  | k + 1, h => by rw [rdI, rdI, rdI_congr (k := k) (fun i hi => h i (by omega)), h k (by omega)]
theorem wI_congr {bs cs : List (BitVec 8)} {o p : Nat} (h : ∀ i, i < 64 → bs.getD (o + i) 0 = cs.getD (p + i) 0) : ∀ t, wI bs o t = wI cs p t
  | 0 => rfl
  | t + 1 => by
    rw [wI, wI, wI_congr h t]
    split
    · rw [rdI_congr (bs := bs) (cs := cs) (o := o + 4 * t) (p := p + 4 * t) (fun i hi => by rw [Nat.add_assoc, Nat.add_assoc]; exact h (4 * t + i) (by omega))]
    · rfl
theorem sbF_congr {bs cs : List (BitVec 8)} {o p : Nat} (s : List (BitVec 32)) (h : ∀ i, i < 64 → bs.getD (o + i) 0 = cs.getD (p + i) 0) : sbF s bs o = sbF s cs p := by
  unfold sbF; rw [wI_congr h]
theorem shaI_app (s : List (BitVec 32)) (c d : List (BitVec 8)) : ∀ j, 64 * j ≤ c.length → shaI s (c ++ d) j = shaI s c j
  | 0, _ => rfl
  | j + 1, h => by
    rw [shaI, shaI, shaI_app s c d j (by omega)]
    exact sbF_congr _ fun i hi => getD_append_left (by omega)
theorem shaI_drop (s : List (BitVec 32)) (c : List (BitVec 8)) (q : Nat) : ∀ j, shaI (shaI s c q) (c.drop (64 * q)) j = shaI s c (q + j)
  | 0 => rfl
  | j + 1 => by
    rw [shaI, shaI_drop s c q j, ← Nat.add_assoc, shaI]
    exact sbF_congr _ fun i _ => by rw [getD_drop, Nat.mul_add, Nat.add_assoc]
def stF (m : List (BitVec 8)) : List (BitVec 32) := shaI H0 m (m.length / 64)
def reF (m : List (BitVec 8)) : List (BitVec 8) := m.drop (64 * (m.length / 64))
theorem stF_length (m : List (BitVec 8)) : (stF m).length = 8 := shaI_length _ _ _
theorem reF_length (m : List (BitVec 8)) : (reF m).length = m.length - 64 * (m.length / 64) := List.length_drop
theorem reF_app (m b : List (BitVec 8)) : reF m ++ b = (m ++ b).drop (64 * (m.length / 64)) := by
  rw [List.drop_append_of_le_length (by omega)]; rfl
theorem stF_app (m b : List (BitVec 8)) {q : Nat} (hq : q = (reF m ++ b).length / 64) : shaI (stF m) (reF m ++ b) q = stF (m ++ b) := by
  rw [reF_app, stF, ← shaI_app H0 m b (m.length / 64) (by omega), shaI_drop, stF]
  congr 1
  rw [hq, reF_app, List.length_drop, List.length_append]; omega
theorem reF_step (m b : List (BitVec 8)) {q : Nat} (hq : q = (reF m ++ b).length / 64) : (reF m ++ b).drop (64 * q) = reF (m ++ b) := by
  rw [reF_app, List.drop_drop, reF]
  congr 1
  rw [hq, reF_app, List.length_drop, List.length_append]; omega
/-- the sum of a message -/
def shaF (m : List (BitVec 8)) : List (BitVec 8) := outI (shaI H0 (padF m m.length) ((padF m m.length).length / 64)) 8
theorem shaF_length (m : List (BitVec 8)) : (shaF m).length = 32 := outI_length _ 8 (Nat.le_refl _)
theorem sumF_eq (m : List (BitVec 8)) : sumF (stF m) (reF m) m.length = shaF m := by
  have hz : zN (reF m).length = zN m.length := by rw [reF_length]; unfold zN; omega
  have hp : padF (reF m) m.length = reF m ++ (128 :: List.replicate (zN m.length) 0 ++ nbF (BitVec.ofInt 64 m.length * 8) 8) := by
    rw [padF, padI, hz]; simp only [List.append_assoc]
  have hp2 : padF m m.length = m ++ (128 :: List.replicate (zN m.length) 0 ++ nbF (BitVec.ofInt 64 m.length * 8) 8) := by
    rw [padF, padI]; simp only [List.append_assoc]
  have hm := zN_mod m.length
  rw [sumF, shaF, hp, hp2]
  generalize hb : (128 :: List.replicate (zN m.length) 0 ++ nbF (BitVec.ofInt 64 m.length * 8) 8 : List (BitVec 8)) = b
  rw [stF_app m b rfl]
  rfl
end Go.Proofs.YtljkjdhkofbgmaaDoor.Av

namespace Go.Proofs.YtljkjdhkofbgmaaDoor.Av
open Go
set_option linter.all false
set_option maxRecDepth 3000

theorem writeM_ac (m X bs : List (BitVec 8)) (x o k : Nat) (cap : Option Nat) (hX : (X.drop x).take (m.length % 64) = reF m) (hx : x + m.length % 64 ≤ X.length) (h : o + k ≤ bs.length) (h0 : 0 < k) (hk : k ≤ 35184372088832) (hm : m.length < 4611686018427387904) :
    AC Tryd.prog 66 [.ptr 0 [], .slice 1 [] o k cap] 3 [(0, some ⟨tH, .node [.u32s (stF m), .slice 2 [] x (m.length % 64) none, .i64 m.length], true⟩), (1, some ⟨.row .cell, .u8s bs, false⟩), (2, some ⟨.row .cell, .u8s X, true⟩), gR]
      ⟨.i64 0, [(0, some (.node [.u32s (stF (m ++ (bs.drop o).take k)), .slice 3 [] (64 * ((m.length % 64 + k) / 64)) ((m.length + k) % 64) none, .i64 (m.length + k : Nat)]))], [(.row .cell, .u8s (reF m ++ (bs.drop o).take k))]⟩ := by
  have hl : ((bs.drop o).take k).length = k := by rw [List.length_take, List.length_drop]; omega
  have h1 := write_ac (stF m) m.length X bs x (m.length % 64) o k none cap (stF_length m) ⟨by omega, by omega⟩ hx h h0 (by omega)
  have hr := reF_length m
  rw [hX, stF_app m _ (by rw [List.length_append, hl, hr]; congr 1; omega), show m.length % 64 + k - 64 * ((m.length % 64 + k) / 64) = (m.length + k) % 64 by omega, show (m.length : Int) + k = ((m.length + k : Nat) : Int) by omega] at h1
  exact h1
theorem writeM_rest (m b : List (BitVec 8)) {k : Nat} (hb : b.length = k) : ((reF m ++ b).drop (64 * ((m.length % 64 + k) / 64))).take ((m.length + k) % 64) = reF (m ++ b) := by
  have hr := reF_length m
  rw [reF_step m b (by rw [List.length_append, hb, hr]; congr 1; omega), List.take_of_length_le]
  rw [reF_length, List.length_append, hb]; omega
theorem writeM_room (m b : List (BitVec 8)) {k : Nat} (hb : b.length = k) : 64 * ((m.length % 64 + k) / 64) + (m.length + k) % 64 ≤ (reF m ++ b).length := by
  rw [List.length_append, reF_length, hb]; omega
theorem sumM_ac (m X : List (BitVec 8)) (x : Nat) (hX : (X.drop x).take (m.length % 64) = reF m) (hx : x + m.length % 64 ≤ X.length) (hm : m.length < 4611686018427387904) :
    AC Tryd.prog 67 [.ptr 0 []] 2 [(0, some ⟨tH, .node [.u32s (stF m), .slice 1 [] x (m.length % 64) none, .i64 m.length], true⟩), (1, some ⟨.row .cell, .u8s X, true⟩), gR] ⟨.u8s (shaF m), [], []⟩ := by
  have h1 := sum_ac (stF m) m.length X x (m.length % 64) none (stF_length m) ⟨by omega, by omega⟩ hx (by omega)
  rw [hX, sumF_eq] at h1
  exact h1
theorem write0_ac (bs : List (BitVec 8)) (o k : Nat) (cap : Option Nat) (h : o + k ≤ bs.length) (h0 : 0 < k) (hk : k ≤ 70368744177664) :
    AC Tryd.prog 66 [.ptr 0 [], .slice 1 [] o k cap] 2 [(0, some ⟨tH, .node [.u32s H0, .nilslice, .i64 0], true⟩), (1, some ⟨.row .cell, .u8s bs, false⟩), gR]
      ⟨.i64 0, [(0, some (.node [.u32s (stF ((bs.drop o).take k)), .slice 2 [] (64 * (k / 64)) (k % 64) none, .i64 (k : Nat)]))], [(.row .cell, .u8s ((bs.drop o).take k))]⟩ := by
  have hl : ((bs.drop o).take k).length = k := by rw [List.length_take, List.length_drop]; omega
  have h1 := write_nil_ac H0 0 bs o k cap rfl (by decide) h h0 hk
  have e : shaI H0 ((bs.drop o).take k) (k / 64) = stF ((bs.drop o).take k) := by rw [stF, hl]
  rw [e, show k - 64 * (k / 64) = k % 64 by omega, Int.zero_add] at h1
  exact h1
theorem reF_eq (m : List (BitVec 8)) : (m.drop (64 * (m.length / 64))).take (m.length % 64) = reF m := List.take_of_length_le (by rw [List.length_drop]; omega)

/-- two parts' sum -/
theorem of2_ac (ss bs : List (BitVec 8)) (p k q l : Nat) (c d : Option Nat) (ha : p + k ≤ ss.length) (hb : q + l ≤ bs.length) (hk0 : 0 < k) (hl0 : 0 < l) (hk : k ≤ 35184372088832) (hl : l ≤ 35184372088832) :
    AC Tryd.prog 64 [.slice 0 [] 0 2 (some 2)] 4 [(0, some ⟨.row .cell, .node [.slice 1 [] p k c, .slice 2 [] q l d], true⟩), (1, some ⟨.row .cell, .u8s ss, false⟩), (2, some ⟨.row .cell, .u8s bs, false⟩), gR]
      ⟨.u8s (shaF ((ss.drop p).take k ++ (bs.drop q).take l)), [], []⟩ := by
  have hal : ((ss.drop p).take k).length = k := by rw [List.length_take, List.length_drop]; omega
  have hbl : ((bs.drop q).take l).length = l := by rw [List.length_take, List.length_drop]; omega
  refine acA tab mix Tryd.func64 ⟨[], [3]⟩ ?_
  repeat first | refine EffG.mk (obA ?_) | refine obA ?_ | refine chkA ?_
  refine callA shanew_ac [] ?_
  have hH : H0.length = 8 := rfl
  have hw := write0_ac ss p k c ha hk0 (by omega)
  generalize H0 = h0 at hw hH
  repeat first | refine EffG.mk (obA ?_) | refine obA ?_ | refine chkA ?_
  refine unrG 3 ?_
  repeat first | refine EffG.mk (obA ?_) | refine obA ?_ | refine chkA ?_ | refine brY ?_ | refine brN ?_
  refine callA hw [5, 1] ?_
  repeat first | refine EffG.mk (obA ?_) | refine obA ?_ | refine chkA ?_ | refine brY ?_ | refine brN ?_
  have hr := reF_eq ((ss.drop p).take k)
  generalize (ss.drop p).take k = M at hal hr ⊢
  have hw2 := writeM_ac M M bs (64 * (M.length / 64)) q l d hr (by omega) hb hl0 hl (by omega)
  have hr2 := writeM_rest M ((bs.drop q).take l) hbl
  have hm2 := writeM_room M ((bs.drop q).take l) hbl
  have hMl : (M ++ (bs.drop q).take l).length = k + l := by rw [List.length_append, hal, hbl]
  generalize (bs.drop q).take l = N at hw2 hr2 hm2 hMl ⊢
  have hs2 := sumM_ac (M ++ N) (reF M ++ N) (64 * ((M.length % 64 + l) / 64)) (by rw [hMl, ← hal]; exact hr2) (by rw [hMl, ← hal]; exact hm2) (by omega)
  rw [hMl] at hs2
  rw [hal] at hw2 hs2
  have hsl := shaF_length (M ++ N)
  generalize shaF (M ++ N) = y at hs2 hsl ⊢
  refine callA hw2 [5, 2, 6] ?_
  repeat first | refine EffG.mk (obA ?_) | refine obA ?_ | refine chkA ?_ | refine brY ?_ | refine brN ?_
  refine callA hs2 [5, 7] ?_
  repeat first | refine EffG.mk (obA ?_) | refine obA ?_ | refine chkA ?_ | refine brY ?_ | refine brN ?_
  refine retA [0, 1, 2, 3]

/-! sums with a key -/
abbrev tM : Ty := .st [.cell, .arr 64 .cell]
def keyP (key : List (BitVec 8)) : List (BitVec 8) := key ++ List.replicate (64 - key.length) 0
def xsI (base key : List (BitVec 8)) (c : BitVec 8) : Nat → List (BitVec 8)
  | 0 => base
  | i + 1 => (xsI base key c i).set i (key.getD i 0 ^^^ c)
theorem xsI_length (base key : List (BitVec 8)) (c : BitVec 8) : ∀ i, (xsI base key c i).length = base.length
  | 0 => rfl
  | i + 1 => by rw [xsI, List.length_set, xsI_length base key c i]
def ipF (key : List (BitVec 8)) : List (BitVec 8) := xsI (keyP key) (keyP key) 0x36 64
def opF (key : List (BitVec 8)) : List (BitVec 8) := xsI (List.replicate 64 0) (keyP key) 0x5c 64
theorem keyP_length {key : List (BitVec 8)} (h : key.length ≤ 64) : (keyP key).length = 64 := by rw [keyP, List.length_append, List.length_replicate]; omega
theorem ipF_length {key : List (BitVec 8)} (h : key.length ≤ 64) : (ipF key).length = 64 := by rw [ipF, xsI_length, keyP_length h]
theorem opF_length (key : List (BitVec 8)) : (opF key).length = 64 := by rw [opF, xsI_length]; rfl

theorem hnew_ac (bs : List (BitVec 8)) (o k : Nat) (cap : Option Nat) (h : o + k ≤ bs.length) (hk : k ≤ 64) :
    AC Tryd.prog 51 [.slice 0 [] o k cap] 1 [(0, some ⟨.row .cell, .u8s bs, false⟩), gR]
      ⟨.ptr 1 [], [], [(tM, .node [.ptr 2 [], .u8s (opF ((bs.drop o).take k))]), (tH, .node [.u32s (stF (ipF ((bs.drop o).take k))), .slice 3 [] 64 0 none, .i64 64]), (.row .cell, .u8s (ipF ((bs.drop o).take k)))]⟩ := by
  have hl : ((bs.drop o).take k).length = k := by rw [List.length_take, List.length_drop]; omega
  refine acA tab mix Tryd.func51 {} ?_
  repeat first | refine EffG.mk (obA ?_) | refine obA ?_ | refine chkA ?_ | refine brY ?_ | refine brN ?_
  refine callA shanew_ac [] ?_
  have hH : H0.length = 8 := rfl
  have hw := fun bs h => write0_ac bs 0 64 (some 64) h (by decide) (by decide)
  generalize H0 = h0 at hw hH
  have q1 : Nat.min k ((Option.getD none ((64 : Nat) : Int)).toNat - (Option.getD none (0 : Int)).toNat) = k := by rw [natMin]; simp only [Option.getD]; omega
  repeat first | rw [q1] | refine EffG.mk (obA ?_) | refine obA ?_ | refine chkA ?_
  have hKP : List.take (Option.getD none (0 : Int)).toNat (List.replicate 64 (0 : BitVec 8)) ++ List.take k (List.drop o bs) ++ List.drop ((Option.getD none (0 : Int)).toNat + k) (List.replicate 64 0) = keyP ((bs.drop o).take k) := by
    rw [keyP, hl, List.drop_replicate]
    show List.take 0 _ ++ _ ++ List.replicate (64 - (0 + k)) _ = _
    rw [Nat.zero_add]; rfl
  have hkl := keyP_length (key := (bs.drop o).take k) (by omega)
  have hip : ipF ((bs.drop o).take k) = xsI (keyP ((bs.drop o).take k)) (keyP ((bs.drop o).take k)) 0x36 64 := rfl
  have hop : opF ((bs.drop o).take k) = xsI (List.replicate 64 0) (keyP ((bs.drop o).take k)) 0x5c 64 := rfl
  generalize opF ((bs.drop o).take k) = O at hop ⊢
  generalize ipF ((bs.drop o).take k) = N at hip ⊢
  generalize keyP ((bs.drop o).take k) = K at hKP hkl hip hop
  refine loopG Nat (fun i => [(4, .ptr 1 []), (5, .ptr 3 []), (21, .u8s K), (22, .i64 i)]) (fun i => [(0, some ⟨.row .cell, .u8s bs, false⟩), (1, some ⟨.arr 64 .cell, .u8s (xsI K K 0x36 i), true⟩), (2, some ⟨tH, .node [.u32s h0, .nilslice, .i64 0], true⟩),
    (3, some ⟨tM, .node [.ptr 2 [], .u8s (xsI (List.replicate 64 0) K 0x5c i)], true⟩), gR]) 4 (fun i => i ≤ 64) (fun i => 64 - i) 0 [0, 1, 2, 3] (Nat.zero_le _) (viewA (h2 := ?_) (h3 := ?_)) ?_
  · exact ⟨rfl, rfl, congrArg (fun x => some (D.u8s x)) hKP, rfl, trivial⟩
  · exact ⟨⟨_, rfl, rfl, rfl, id⟩, ⟨_, rfl, rfl, congrArg D.u8s hKP, id⟩, ⟨_, rfl, rfl, rfl, id⟩, ⟨_, rfl, rfl, rfl, id⟩, ⟨_, rfl, rfl, rfl, id⟩, trivial⟩
  intro i hi
  have h1 := xsI_length K K 0x36 i
  have h2 := xsI_length (List.replicate 64 0) K 0x5c i
  rw [List.length_replicate] at h2
  repeat first | refine EffG.mk (obA ?_) | refine obA ?_ | refine chkA ?_
  refine Br.split (fun h => ?_) (fun h => ?_)
  · have hi : i < 64 := by have := of_decide_eq_true h; omega
    repeat first | refine EffG.mk (obA ?_) | refine obA ?_ | refine chkA ?_
    refine nextA (i + 1) [0, 1, 2, 3] viewA
  · obtain rfl : i = 64 := by have := of_decide_eq_false h; omega
    rw [← hip, ← hop]
    rw [← hip] at h1
    rw [← hop] at h2
    have hw := hw N (by omega)
    rw [List.drop_zero, List.take_of_length_le (by omega)] at hw
    repeat first | refine EffG.mk (obA ?_) | refine obA ?_ | refine chkA ?_
    refine callA (hw.arr 1 64) [2, 1] ?_
    repeat first | refine EffG.mk (obA ?_) | refine obA ?_ | refine chkA ?_
    refine retA [0, 3, 2, 4]

theorem macwrite_ac (O m X bs : List (BitVec 8)) (x o k : Nat) (cap : Option Nat) (hX : (X.drop x).take (m.length % 64) = reF m) (hx : x + m.length % 64 ≤ X.length) (h : o + k ≤ bs.length) (h0 : 0 < k) (hk : k ≤ 35184372088832) (hm : m.length < 4611686018427387904) :
    AC Tryd.prog 52 [.ptr 0 [], .slice 2 [] o k cap] 4 [(0, some ⟨tM, .node [.ptr 1 [], .u8s O], true⟩), (1, some ⟨tH, .node [.u32s (stF m), .slice 3 [] x (m.length % 64) none, .i64 m.length], true⟩), (2, some ⟨.row .cell, .u8s bs, false⟩), (3, some ⟨.row .cell, .u8s X, true⟩), gR]
      ⟨.i64 0, [(1, some (.node [.u32s (stF (m ++ (bs.drop o).take k)), .slice 4 [] (64 * ((m.length % 64 + k) / 64)) ((m.length + k) % 64) none, .i64 (m.length + k : Nat)]))], [(.row .cell, .u8s (reF m ++ (bs.drop o).take k))]⟩ := by
  have hw := writeM_ac m X bs x o k cap hX hx h h0 hk hm
  generalize (bs.drop o).take k = b at hw ⊢
  refine acA tab mix Tryd.func52 {} ?_
  repeat first | refine EffG.mk (obA ?_) | refine obA ?_ | refine chkA ?_ | refine brY ?_ | refine brN ?_
  refine callA hw [1, 2, 3] ?_
  repeat first | refine EffG.mk (obA ?_) | refine obA ?_ | refine chkA ?_
  refine retA [0, 1, 2, 3, 4]
theorem macsum_ac (O m X : List (BitVec 8)) (x : Nat) (hX : (X.drop x).take (m.length % 64) = reF m) (hx : x + m.length % 64 ≤ X.length) (hm : m.length < 4611686018427387904) (hO : O.length = 64) :
    AC Tryd.prog 53 [.ptr 0 []] 3 [(0, some ⟨tM, .node [.ptr 1 [], .u8s O], true⟩), (1, some ⟨tH, .node [.u32s (stF m), .slice 2 [] x (m.length % 64) none, .i64 m.length], true⟩), (2, some ⟨.row .cell, .u8s X, true⟩), gR]
      ⟨.u8s (shaF (O ++ shaF m)), [], []⟩ := by
  have hs := sumM_ac m X x hX hx hm
  have hl := shaF_length m
  generalize shaF m = y at hs hl ⊢
  have ho := (of2_ac O y 0 64 0 32 (some 64) (some 32) (by omega) (by omega) (by decide) (by decide) (by decide) (by decide))
  have hl2 := shaF_length (O ++ y)
  rw [List.drop_zero, List.take_of_length_le (by omega), List.drop_zero, List.take_of_length_le (by omega)] at ho
  generalize shaF (O ++ y) = z at ho hl2 ⊢
  refine acA tab mix Tryd.func53 {} ?_
  repeat first | refine EffG.mk (obA ?_) | refine obA ?_ | refine chkA ?_ | refine brY ?_ | refine brN ?_
  refine callA hs [1, 2] ?_
  repeat first | refine EffG.mk (obA ?_) | refine obA ?_ | refine chkA ?_
  refine callA ((ho.arrAt 1 64 [.fld 1] tM (.node [.ptr 3 [], .u8s O])).arr 2 32) [5, 0, 4, 1] ?_
  repeat first | refine EffG.mk (obA ?_) | refine obA ?_ | refine chkA ?_
  refine retA [0, 1, 2]
end Go.Proofs.YtljkjdhkofbgmaaDoor.Av

namespace Go.Proofs.YtljkjdhkofbgmaaDoor.Av
open Go
set_option linter.all false
set_option maxRecDepth 3000

/-! sums with a key; wrapped keys -/
def hmF (key m : List (BitVec 8)) : List (BitVec 8) := shaF (opF key ++ shaF (ipF key ++ m))
theorem hmF_length (key m : List (BitVec 8)) : (hmF key m).length = 32 := shaF_length _

/-- the first piece behind the key's block -/
theorem ip0 {N : List (BitVec 8)} (h : N.length = 64) : (N.drop 64).take (N.length % 64) = reF N := by rw [reF, h, List.drop_of_length_le (by omega)]; rfl

theorem hof1_ac (ks ss : List (BitVec 8)) (p k q l : Nat) (c d : Option Nat) (ha : p + k ≤ ks.length) (hb : q + l ≤ ss.length) (hk : k ≤ 64) (hl0 : 0 < l) (hl : l ≤ 35184372088832) :
    AC Tryd.prog 34 [.slice 0 [] p k c, .slice 1 [] 0 1 (some 1)] 3 [(0, some ⟨.row .cell, .u8s ks, false⟩), (1, some ⟨.row .cell, .node [.slice 2 [] q l d], true⟩), (2, some ⟨.row .cell, .u8s ss, false⟩), gR]
      ⟨.u8s (hmF ((ks.drop p).take k) ((ss.drop q).take l)), [], []⟩ := by
  have hkl : ((ks.drop p).take k).length = k := by rw [List.length_take, List.length_drop]; omega
  have hbl : ((ss.drop q).take l).length = l := by rw [List.length_take, List.length_drop]; omega
  have hn := hnew_ac ks p k c ha hk
  have e : hmF ((ks.drop p).take k) ((ss.drop q).take l) = shaF (opF ((ks.drop p).take k) ++ shaF (ipF ((ks.drop p).take k) ++ (ss.drop q).take l)) := rfl
  have hO := opF_length ((ks.drop p).take k)
  have hN := ipF_length (key := (ks.drop p).take k) (by omega)
  generalize hmF ((ks.drop p).take k) ((ss.drop q).take l) = y at e ⊢
  generalize opF ((ks.drop p).take k) = O at hn e hO
  generalize ipF ((ks.drop p).take k) = N at hn e hN
  have hw := macwrite_ac O N N ss 64 q l d (ip0 hN) (by rw [hN]; decide) hb hl0 hl (by omega)
  have hr := writeM_rest N ((ss.drop q).take l) hbl
  have hm := writeM_room N ((ss.drop q).take l) hbl
  rw [hN] at hr hm
  generalize (ss.drop q).take l = b at hw hr hm e hbl
  have hNl : (N ++ b).length = 64 + l := by rw [List.length_append, hN, hbl]
  have hs := macsum_ac O (N ++ b) (reF N ++ b) (64 * ((64 % 64 + l) / 64)) (by rw [hNl]; exact hr) (by rw [hNl]; exact hm) (by omega) hO
  rw [← e, hNl] at hs
  rw [hN] at hw
  have hy : y.length = 32 := by rw [e]; exact shaF_length _
  refine acA tab mix Tryd.func34 ⟨[], [3]⟩ ?_
  repeat first | refine EffG.mk (obA ?_) | refine obA ?_ | refine chkA ?_
  refine callA hn [0] ?_
  repeat first | refine EffG.mk (obA ?_) | refine obA ?_ | refine chkA ?_
  refine unrG 2 ?_
  repeat first | refine EffG.mk (obA ?_) | refine obA ?_ | refine chkA ?_ | refine brY ?_ | refine brN ?_
  refine callA hw [4, 5, 2, 6] ?_
  repeat first | refine EffG.mk (obA ?_) | refine obA ?_ | refine chkA ?_ | refine brY ?_ | refine brN ?_
  refine callA hs [4, 5, 7] ?_
  repeat first | refine EffG.mk (obA ?_) | refine obA ?_ | refine chkA ?_
  refine retA [0, 1, 2]

theorem hof2_ac (ks ss us : List (BitVec 8)) (p k q l r n : Nat) (c d f : Option Nat) (ha : p + k ≤ ks.length) (hb : q + l ≤ ss.length) (hc : r + n ≤ us.length) (hk : k ≤ 64) (hl0 : 0 < l) (hl : l ≤ 35184372088832) (hn0 : 0 < n) (hn : n ≤ 35184372088832) :
    AC Tryd.prog 34 [.slice 0 [] p k c, .slice 1 [] 0 2 (some 2)] 4 [(0, some ⟨.row .cell, .u8s ks, false⟩), (1, some ⟨.row .cell, .node [.slice 2 [] q l d, .slice 3 [] r n f], true⟩), (2, some ⟨.row .cell, .u8s ss, false⟩), (3, some ⟨.row .cell, .u8s us, false⟩), gR]
      ⟨.u8s (hmF ((ks.drop p).take k) ((ss.drop q).take l ++ (us.drop r).take n)), [], []⟩ := by
  have hkl : ((ks.drop p).take k).length = k := by rw [List.length_take, List.length_drop]; omega
  have hbl : ((ss.drop q).take l).length = l := by rw [List.length_take, List.length_drop]; omega
  have hul : ((us.drop r).take n).length = n := by rw [List.length_take, List.length_drop]; omega
  have hn := hnew_ac ks p k c ha hk
  have e : hmF ((ks.drop p).take k) ((ss.drop q).take l ++ (us.drop r).take n) = shaF (opF ((ks.drop p).take k) ++ shaF (ipF ((ks.drop p).take k) ++ ((ss.drop q).take l ++ (us.drop r).take n))) := rfl
  rw [← List.append_assoc] at e
  have hO := opF_length ((ks.drop p).take k)
  have hN := ipF_length (key := (ks.drop p).take k) (by omega)
  generalize hmF ((ks.drop p).take k) ((ss.drop q).take l ++ (us.drop r).take n) = y at e ⊢
  generalize opF ((ks.drop p).take k) = O at hn e hO
  generalize ipF ((ks.drop p).take k) = N at hn e hN
  have hw := macwrite_ac O N N ss 64 q l d (ip0 hN) (by rw [hN]; decide) hb hl0 hl (by omega)
  have hr := writeM_rest N ((ss.drop q).take l) hbl
  have hm := writeM_room N ((ss.drop q).take l) hbl
  rw [hN] at hr hm
  generalize (ss.drop q).take l = b at hw hr hm e hbl
  have hNl : (N ++ b).length = 64 + l := by rw [List.length_append, hN, hbl]
  have hw2 := macwrite_ac O (N ++ b) (reF N ++ b) us (64 * ((64 % 64 + l) / 64)) r n f (by rw [hNl]; exact hr) (by rw [hNl]; exact hm) hc hn0 (by omega) (by omega)
  have hr2 := writeM_rest (N ++ b) ((us.drop r).take n) hul
  have hm2 := writeM_room (N ++ b) ((us.drop r).take n) hul
  rw [hNl] at hr2 hm2
  generalize (us.drop r).take n = u at hw2 hr2 hm2 e hul
  have hNl2 : (N ++ b ++ u).length = 64 + l + n := by rw [List.length_append, hNl, hul]
  have hs := macsum_ac O (N ++ b ++ u) (reF (N ++ b) ++ u) (64 * (((64 + l) % 64 + n) / 64)) (by rw [hNl2]; exact hr2) (by rw [hNl2]; exact hm2) (by omega) hO
  rw [← e, hNl2] at hs
  rw [hNl] at hw2
  rw [hN] at hw
  have hy : y.length = 32 := by rw [e]; exact shaF_length _
  refine acA tab mix Tryd.func34 ⟨[], [3]⟩ ?_
  repeat first | refine EffG.mk (obA ?_) | refine obA ?_ | refine chkA ?_
  refine callA hn [0] ?_
  repeat first | refine EffG.mk (obA ?_) | refine obA ?_ | refine chkA ?_
  refine unrG 3 ?_
  repeat first | refine EffG.mk (obA ?_) | refine obA ?_ | refine chkA ?_ | refine brY ?_ | refine brN ?_
  refine callA hw [5, 6, 2, 7] ?_
  repeat first | refine EffG.mk (obA ?_) | refine obA ?_ | refine chkA ?_ | refine brY ?_ | refine brN ?_
  refine callA hw2 [5, 6, 3, 8] ?_
  repeat first | refine EffG.mk (obA ?_) | refine obA ?_ | refine chkA ?_ | refine brY ?_ | refine brN ?_
  refine callA hs [5, 6, 9] ?_
  repeat first | refine EffG.mk (obA ?_) | refine obA ?_ | refine chkA ?_
  refine retA [0, 1, 2, 3]

/-! are bytes the same? -/
def apI (a b : List (BitVec 8)) : Nat → BitVec 8
  | 0 => 0
  | i + 1 => apI a b i ||| (a.getD i 0 ^^^ b.getD i 0)
theorem or_zero {x y : BitVec 8} : x ||| y = 0 ↔ x = 0 ∧ y = 0 := by
  refine ⟨fun h => ⟨?_, ?_⟩, fun ⟨h, h'⟩ => by rw [h, h']; rfl⟩
  · refine BitVec.eq_of_getLsbD_eq fun i _ => ?_
    have := congrArg (fun z => BitVec.getLsbD z i) h
    simp only [BitVec.getLsbD_or] at this
    revert this; cases x.getLsbD i <;> simp
  · refine BitVec.eq_of_getLsbD_eq fun i _ => ?_
    have := congrArg (fun z => BitVec.getLsbD z i) h
    simp only [BitVec.getLsbD_or] at this
    revert this; cases y.getLsbD i <;> simp
theorem xor_zero {x y : BitVec 8} : x ^^^ y = 0 ↔ x = y := by
  refine ⟨fun h => ?_, fun h => by rw [h, BitVec.xor_self]; rfl⟩
  refine BitVec.eq_of_getLsbD_eq fun i _ => ?_
  have := congrArg (fun z => BitVec.getLsbD z i) h
  simp only [BitVec.getLsbD_xor] at this
  revert this; cases x.getLsbD i <;> cases y.getLsbD i <;> simp
theorem apI_zero (a b : List (BitVec 8)) : ∀ n, apI a b n = 0 ↔ ∀ i, i < n → a.getD i 0 = b.getD i 0
  | 0 => ⟨fun _ i h => absurd h (Nat.not_lt_zero i), fun _ => rfl⟩
  | n + 1 => by
    rw [apI, or_zero, apI_zero a b n, xor_zero]
    refine ⟨fun ⟨h1, h2⟩ i hi => ?_, fun h => ⟨fun i hi => h i (by omega), h n (by omega)⟩⟩
    rcases Nat.lt_or_ge i n with h | h
    · exact h1 i h
    · obtain rfl : i = n := by omega
      exact h2
theorem eq_getD {a b : List (BitVec 8)} (hl : a.length = b.length) (h : ∀ i, i < a.length → a.getD i 0 = b.getD i 0) : a = b := by
  refine List.ext_getElem hl fun i h1 h2 => ?_
  have := h i h1
  simpa [List.getD_eq_getElem?_getD, List.getElem?_eq_getElem h1, List.getElem?_eq_getElem h2] using this
theorem equal_ac (ss us : List (BitVec 8)) (n : Nat) (c d : Option Nat) (hs : ss.length = n) (hu : us.length = n) (hn : n ≤ 1000000) :
    AC Tryd.prog 37 [.slice 0 [] 0 n c, .slice 1 [] 0 n d] 2 [(0, some ⟨.row .cell, .u8s ss, false⟩), (1, some ⟨.row .cell, .u8s us, false⟩)] ⟨.bool (decide (ss = us)), [], []⟩ := by
  have hE : decide (ss = us) = decide (apI ss us n = 0) := by
    refine decide_eq_decide.2 ⟨fun h => (apI_zero ss us n).2 fun i _ => by rw [h], fun h => eq_getD (by omega) fun i hi => (apI_zero ss us n).1 h i (by omega)⟩
  rw [hE]
  refine acA tab mix Tryd.func37 {} ?_
  repeat first | refine EffG.mk (obA ?_) | refine obA ?_ | refine chkA ?_
  refine Br.no (by simp) ?_
  repeat first | refine EffG.mk (obA ?_) | refine obA ?_ | refine chkA ?_
  refine loopG Nat (fun i => [(0, .slice 0 [] 0 n c), (1, .slice 1 [] 0 n d), (5, .u8 (apI ss us i)), (13, .i64 n), (14, .i64 i)]) (fun i => [(0, some ⟨.row .cell, .u8s ss, false⟩), (1, some ⟨.row .cell, .u8s us, false⟩)]) 2 (fun i => i ≤ n) (fun i => n - i) 0 [0, 1] (Nat.zero_le _) viewA ?_
  intro i hi
  repeat first | refine EffG.mk (obA ?_) | refine obA ?_ | refine chkA ?_
  refine Br.split (fun h => ?_) (fun h => ?_)
  · have hi : i < n := by have := of_decide_eq_true h; omega
    repeat first | refine EffG.mk (obA ?_) | refine obA ?_ | refine chkA ?_
    refine nextA (i + 1) [0, 1] viewA
  · obtain rfl : i = n := by have := of_decide_eq_false h; omega
    repeat first | refine EffG.mk (obA ?_) | refine obA ?_ | refine chkA ?_
    refine retA [0, 1]

def oursF : List (BitVec 8) := [114, 101, 108, 105, 113, 117, 97, 114, 121, 32]
def labF (key l : List (BitVec 8)) : List (BitVec 8) := hmF key (oursF ++ l)
theorem labF_length (key l : List (BitVec 8)) : (labF key l).length = 32 := hmF_length _ _
theorem label_ac (key l : List (BitVec 8)) (hk : key.length = 32) (h0 : 0 < l.length) (hl : l.length ≤ 100) : AC Tryd.prog 33 [.u8s key, .str l] 0 [gR] ⟨.u8s (labF key l), [], []⟩ := by
  have ho := hof2_ac key oursF l 0 32 0 10 0 l.length (some 32) (some 10) none (by omega) (by decide) (by omega) (by decide) (by decide) (by decide) h0 (by omega)
  have e : labF key l = hmF key (oursF ++ l) := rfl
  rw [List.drop_zero, List.drop_zero, List.drop_zero, List.take_of_length_le (by omega), List.take_of_length_le (by decide), List.take_of_length_le (Nat.le_refl _), ← e] at ho
  have hy := labF_length key l
  generalize labF key l = y at ho hy ⊢
  refine acA tab mix Tryd.func33 {} ?_
  repeat first | refine EffG.mk (obA ?_) | refine obA ?_ | refine chkA ?_
  refine callA (ho.arr 0 32) [0, 4, 2, 3] ?_
  repeat first | refine EffG.mk (obA ?_) | refine obA ?_ | refine chkA ?_
  refine retA []
end Go.Proofs.YtljkjdhkofbgmaaDoor.Av

namespace Go.Proofs.YtljkjdhkofbgmaaDoor.Av
open Go
set_option linter.all false
set_option maxRecDepth 3000

def xrI (l : List (BitVec 8)) (o : Nat) (e : List (BitVec 8)) : Nat → List (BitVec 8)
  | 0 => l
  | i + 1 => (xrI l o e i).set (o + i) ((xrI l o e i).getD (o + i) 0 ^^^ e.getD i 0)
theorem xrI_length (l : List (BitVec 8)) (o : Nat) (e : List (BitVec 8)) : ∀ i, (xrI l o e i).length = l.length
  | 0 => rfl
  | i + 1 => by rw [xrI, List.length_set, xrI_length l o e i]
def blkN (n : BitVec 8) : List (BitVec 8) := [0, 0, 0, 0, 0, 0, 0, 0, 0, 0, 0, 0, 0, 0, 0, n]
instance (ks : List (List (BitVec 8))) : Pure (keysD ks) := ⟨fun s => ren_keysD s ks⟩
theorem over1_ac (l : List (BitVec 8)) (ks : List (List (BitVec 8))) (n : BitVec 8) (o : Nat) (c : Option Nat) (hl : l.length = 32) (ho : o ≤ 16) (h1 : ks.length = 15) (h2 : ∀ k ∈ ks, k.length = 16) :
    AC Tryd.prog 49 [.u8 n, .slice 0 [] o 16 c, .ptr 1 []] 3 [(0, some ⟨t32, .u8s l, true⟩), (1, some ⟨.cell, .ptr 2 [], true⟩), (2, some ⟨tC, keysD ks, true⟩)]
      ⟨.tup [], [(0, some (.u8s (xrI l o (encI ks (blkN n) 14) 16)))], []⟩ := by
  have he := encrypt_ac ks (blkN n) rfl h1 h2
  have hel := encI_length ks (blkN n) rfl 14
  generalize encI ks (blkN n) 14 = e at he hel ⊢
  refine acA tab mix Tryd.func49 {} ?_
  repeat first | refine EffG.mk (obA ?_) | refine obA ?_ | refine chkA ?_
  refine callA he [2] ?_
  repeat first | refine EffG.mk (obA ?_) | refine obA ?_ | refine chkA ?_
  refine loopG Nat (fun i => [(1, .slice 0 [] o 16 c), (10, .u8s e), (11, .i64 i)]) (fun i => [(0, some ⟨t32, .u8s (xrI l o e i), true⟩), (1, some ⟨.cell, .ptr 2 [], true⟩), (2, some ⟨tC, keysD ks, true⟩)]) 3 (fun i => i ≤ 16) (fun i => 16 - i) 0 [0, 1, 2] (Nat.zero_le _) viewA ?_
  intro i hi
  have hx := xrI_length l o e i
  rw [hl] at hx
  repeat first | refine EffG.mk (obA ?_) | refine obA ?_ | refine chkA ?_
  refine Br.split (fun h => ?_) (fun h => ?_)
  · have hi : i < 16 := by have := of_decide_eq_true h; omega
    repeat first | refine EffG.mk (obA ?_) | refine obA ?_ | refine chkA ?_
    refine nextA (i + 1) [0, 1, 2] viewA
  · obtain rfl : i = 16 := by have := of_decide_eq_false h; omega
    repeat first | refine EffG.mk (obA ?_) | refine obA ?_ | refine chkA ?_
    refine retA [0, 1, 2]

def wrapS : List (BitVec 8) := [119, 114, 97, 112]
def checkS : List (BitVec 8) := [99, 104, 101, 99, 107]
def maskF (by_ k : List (BitVec 8)) : List (BitVec 8) := xrI (xrI k 0 (encI (schedF (labF by_ wrapS)) (blkN 0) 14) 16) 16 (encI (schedF (labF by_ wrapS)) (blkN 1) 14) 16
theorem maskF_length (b k : List (BitVec 8)) : (maskF b k).length = k.length := by rw [maskF, xrI_length, xrI_length]
theorem masked_ac (b k : List (BitVec 8)) (hb : b.length = 32) (hk : k.length = 32) : AC Tryd.prog 31 [.u8s b, .u8s k] 0 [gR] ⟨.u8s (maskF b k), [], []⟩ := by
  have e : maskF b k = xrI (xrI k 0 (encI (schedF (labF b wrapS)) (blkN 0) 14) 16) 16 (encI (schedF (labF b wrapS)) (blkN 1) 14) 16 := rfl
  have hl := label_ac b wrapS hb (by decide) (by decide)
  have hll := labF_length b wrapS
  generalize labF b wrapS = x at e hl hll
  have hn := new_ac x hll
  have h1 := schedF_length x
  have h2 := schedF_lens x hll
  generalize schedF x = ks at e hn h1 h2
  have ho := fun l n o c hl ho => over1_ac l ks n o c hl ho h1 h2
  have hx := xrI_length k 0 (encI ks (blkN 0) 14) 16
  have hy := maskF_length b k
  generalize maskF b k = y at e hy ⊢
  refine acA tab mix Tryd.func31 {} ?_
  repeat first | refine EffG.mk (obA ?_) | refine obA ?_ | refine chkA ?_
  refine callA hl [] ?_
  repeat first | refine EffG.mk (obA ?_) | refine obA ?_ | refine chkA ?_
  refine callA hn [] ?_
  repeat first | refine EffG.mk (obA ?_) | refine obA ?_ | refine chkA ?_
  refine callA (ho k 0 0 (some 32) hk (by decide)) [1, 4, 3] ?_
  repeat first | refine EffG.mk (obA ?_) | refine obA ?_ | refine chkA ?_
  refine callA (ho _ 1 16 (some 16) (hx.trans hk) (by decide)) [1, 4, 3] ?_
  rw [← e]
  repeat first | refine EffG.mk (obA ?_) | refine obA ?_ | refine chkA ?_
  refine retA []
def chkF (by_ s : List (BitVec 8)) : List (BitVec 8) := hmF (labF by_ checkS) s
theorem chkF_length (b s : List (BitVec 8)) : (chkF b s).length = 32 := hmF_length _ _
theorem check_ac (b s : List (BitVec 8)) (hb : b.length = 32) (hs : s.length = 32) : AC Tryd.prog 20 [.u8s b, .u8s s] 0 [gR] ⟨.u8s (chkF b s), [], []⟩ := by
  have e : chkF b s = hmF (labF b checkS) s := rfl
  have hl := label_ac b checkS hb (by decide) (by decide)
  have hll := labF_length b checkS
  generalize labF b checkS = x at e hl hll
  have ho := hof1_ac x s 0 32 0 32 (some 32) (some 32) (by omega) (by omega) (by decide) (by decide) (by decide)
  rw [List.drop_zero, List.take_of_length_le (by omega), List.drop_zero, List.take_of_length_le (by omega), ← e] at ho
  have hy := chkF_length b s
  generalize chkF b s = y at ho hy ⊢
  refine acA tab mix Tryd.func20 {} ?_
  repeat first | refine EffG.mk (obA ?_) | refine obA ?_ | refine chkA ?_
  refine callA hl [] ?_
  repeat first | refine EffG.mk (obA ?_) | refine obA ?_ | refine chkA ?_
  refine callA ((ho.arr 0 32).arr 2 32) [3, 4, 1] ?_
  repeat first | refine EffG.mk (obA ?_) | refine obA ?_ | refine chkA ?_
  refine retA []
theorem wseal_ac (b k : List (BitVec 8)) (hb : b.length = 32) (hk : k.length = 32) : AC Tryd.prog 18 [.u8s b, .u8s k] 0 [gR] ⟨.tup [.u8s (maskF b k), .u8s (chkF b (maskF b k))], [], []⟩ := by
  have hm := masked_ac b k hb hk
  have hy := maskF_length b k
  rw [hk] at hy
  generalize maskF b k = y at hm hy ⊢
  have hc := check_ac b y hb hy
  have hz := chkF_length b y
  generalize chkF b y = z at hc hz ⊢
  refine acA tab mix Tryd.func18 {} ?_
  repeat first | refine EffG.mk (obA ?_) | refine obA ?_ | refine chkA ?_
  refine callA hm [] ?_
  repeat first | refine EffG.mk (obA ?_) | refine obA ?_ | refine chkA ?_
  refine callA hc [] ?_
  repeat first | refine EffG.mk (obA ?_) | refine obA ?_ | refine chkA ?_
  refine retA []
theorem open_ac (b s c : List (BitVec 8)) (hb : b.length = 32) (hs : s.length = 32) (hc : c.length = 32) :
    AC Tryd.prog 23 [.u8s b, .u8s s, .u8s c] 0 [gR] ⟨.tup [.u8s (if chkF b s = c then maskF b s else List.replicate 32 0), .i64 (if chkF b s = c then 0 else 30)], [], []⟩ := by
  have hm := masked_ac b s hb hs
  have hy := maskF_length b s
  rw [hs] at hy
  generalize maskF b s = y at hm hy ⊢
  have hk := check_ac b s hb hs
  have hz := chkF_length b s
  generalize chkF b s = z at hk hz ⊢
  have hq := equal_ac z c 32 (some 32) (some 32) hz hc (by decide)
  refine acA tab mix Tryd.func23 {} ?_
  repeat first | refine EffG.mk (obA ?_) | refine obA ?_ | refine chkA ?_
  refine callA hk [] ?_
  repeat first | refine EffG.mk (obA ?_) | refine obA ?_ | refine chkA ?_
  refine callA ((hq.arr 0 32).arr 1 32) [4, 2] ?_
  repeat first | refine EffG.mk (obA ?_) | refine obA ?_ | refine chkA ?_
  refine Br.split (fun h => ?_) (fun h => ?_)
  · have h : ¬ z = c := by simpa using h
    rw [if_neg h, if_neg h]
    repeat first | refine EffG.mk (obA ?_) | refine obA ?_ | refine chkA ?_
    refine retA []
  · have h : z = c := by simpa using h
    rw [if_pos h, if_pos h]
    repeat first | refine EffG.mk (obA ?_) | refine obA ?_ | refine chkA ?_
    refine callA hm [] ?_
    repeat first | refine EffG.mk (obA ?_) | refine obA ?_ | refine chkA ?_
    refine retA []
end Go.Proofs.YtljkjdhkofbgmaaDoor.Av

namespace Go.Proofs.YtljkjdhkofbgmaaDoor.Av
open Go
set_option linter.all false
set_option maxRecDepth 3000

/-! what a mask does -/
theorem xrI_at (l : List (BitVec 8)) (o : Nat) (e : List (BitVec 8)) : ∀ n, o + n ≤ l.length → ∀ j, (xrI l o e n).getD j 0 = if o ≤ j ∧ j < o + n then l.getD j 0 ^^^ e.getD (j - o) 0 else l.getD j 0
  | 0, _, j => by rw [if_neg (by omega)]; rfl
  | n + 1, h, j => by
    rw [xrI, getD_set (by rw [xrI_length]; omega), xrI_at l o e n (by omega), xrI_at l o e n (by omega)]
    rw [if_neg (show ¬ (o ≤ o + n ∧ o + n < o + n) by omega)]
    by_cases hj : j = o + n
    · subst hj; rw [if_pos rfl, if_pos (by omega), show o + n - o = n by omega]
    · rw [if_neg hj]
      by_cases h2 : o ≤ j ∧ j < o + n
      · rw [if_pos h2, if_pos (by omega)]
      · rw [if_neg h2, if_neg (by omega)]
def mkB (b : List (BitVec 8)) (j : Nat) : BitVec 8 := if j < 16 then (encI (schedF (labF b wrapS)) (blkN 0) 14).getD j 0 else (encI (schedF (labF b wrapS)) (blkN 1) 14).getD (j - 16) 0
theorem maskF_at (b k : List (BitVec 8)) (hk : k.length = 32) (j : Nat) (hj : j < 32) : (maskF b k).getD j 0 = k.getD j 0 ^^^ mkB b j := by
  rw [maskF, xrI_at _ _ _ 16 (by rw [xrI_length]; omega), xrI_at _ _ _ 16 (by omega)]
  unfold mkB
  by_cases h : j < 16
  · rw [if_neg (by omega), if_pos (by omega), if_pos h, Nat.sub_zero]
  · rw [if_pos (by omega), if_neg (by omega), if_neg h]
theorem xor_xor_r (a b : BitVec 8) : a ^^^ b ^^^ b = a := by rw [BitVec.xor_assoc, BitVec.xor_self, BitVec.xor_zero]
theorem mask_mask (b k : List (BitVec 8)) (hk : k.length = 32) : maskF b (maskF b k) = k := by
  have h1 := maskF_length b k
  refine eq_getD (by rw [maskF_length, h1]) fun i hi => ?_
  rw [maskF_length, h1, hk] at hi
  rw [maskF_at _ _ (h1.trans hk) i hi, maskF_at _ _ hk i hi, xor_xor_r]
theorem mask_inj {b k l : List (BitVec 8)} (hk : k.length = 32) (hl : l.length = 32) : maskF b k = maskF b l ↔ k = l :=
  ⟨fun h => by rw [← mask_mask b k hk, h, mask_mask b l hl], fun h => by rw [h]⟩
/-- no mask is nothing: AES leads back -/
theorem mask_ne (b k : List (BitVec 8)) (hk : k.length = 32) : maskF b k ≠ k := by
  intro h
  have key : ∀ j, j < 32 → mkB b j = 0 := fun j hj => by
    have h2 := maskF_at b k hk j hj
    rw [h] at h2
    rw [← xor_cancel (k.getD j 0) (mkB b j), ← h2, BitVec.xor_self]; rfl
  have l0 := encI_length (schedF (labF b wrapS)) (blkN 0) rfl 14
  have l1 := encI_length (schedF (labF b wrapS)) (blkN 1) rfl 14
  have e : encI (schedF (labF b wrapS)) (blkN 0) 14 = encI (schedF (labF b wrapS)) (blkN 1) 14 := ext16 l0 l1 fun i hi => by
    have h0 := key i (by omega)
    have h1 := key (16 + i) (by omega)
    unfold mkB at h0 h1
    rw [if_pos hi] at h0
    rw [if_neg (by omega), show 16 + i - 16 = i by omega] at h1
    rw [h0, h1]
  have := (dec_enc (schedF (labF b wrapS)) (blkN 0) rfl).symm.trans ((congrArg _ e).trans (dec_enc (schedF (labF b wrapS)) (blkN 1) rfl))
  exact absurd this (by decide)
end Go.Proofs.YtljkjdhkofbgmaaDoor.Av

namespace Go.Proofs.YtljkjdhkofbgmaaDoor.Av
open Go
set_option linter.all false
set_option maxRecDepth 3000

/-- sealed by one key, and opened: all that the laws need of it -/
theorem seal_ex (b k : List (BitVec 8)) (hb : b.length = 32) (hk : k.length = 32) : ∃ s c : List (BitVec 8), s = maskF b k ∧ c = chkF b s ∧ s.length = 32 ∧ c.length = 32 ∧ s ≠ k ∧
    AC Tryd.prog 18 [.u8s b, .u8s k] 0 [gR] ⟨.tup [.u8s s, .u8s c], [], []⟩ ∧ AC Tryd.prog 23 [.u8s b, .u8s s, .u8s c] 0 [gR] ⟨.tup [.u8s k, .i64 0], [], []⟩ ∧
    AC Tryd.prog 20 [.u8s b, .u8s s] 0 [gR] ⟨.u8s c, [], []⟩ := by
  have h2 := open_ac b (maskF b k) (chkF b (maskF b k)) hb ((maskF_length b k).trans hk) (chkF_length _ _)
  rw [if_pos rfl, if_pos rfl, mask_mask b k hk] at h2
  exact ⟨_, _, rfl, rfl, (maskF_length b k).trans hk, chkF_length _ _, mask_ne b k hk, wseal_ac b k hb hk, h2, check_ac b _ hb ((maskF_length b k).trans hk)⟩

theorem wawake_ac : AC Tryd.prog 22 [] 0 [gR] ⟨.bool true, [], []⟩ := by
  obtain ⟨s, c, -, -, hs, hc, hne, h1, h2, h3⟩ := seal_ex ((List.replicate 32 0).set 0 1) ((List.replicate 32 0).set 0 2) rfl rfl
  refine acA tab mix Tryd.func22 {} ?_
  repeat first | refine EffG.mk (obA ?_) | refine obA ?_ | refine chkA ?_
  refine callA h1 [] ?_
  repeat first | refine EffG.mk (obA ?_) | refine obA ?_ | refine chkA ?_
  refine callA h2 [] ?_
  repeat first | refine EffG.mk (obA ?_) | refine obA ?_ | refine chkA ?_
  refine Br.yes (neY hne) ?_
  repeat first | refine EffG.mk (obA ?_) | refine obA ?_ | refine chkA ?_ | refine brY ?_ | refine brN ?_
  refine callA h3 [] ?_
  have hq : (D.u8s c).eqb (D.u8s c) = true := eqY rfl
  repeat first | refine EffG.mk (obA ?_) | refine obA ?_ | refine chkA ?_ | refine brY ?_ | refine brN ?_ | rw [hq]
  refine retA []

theorem wrapback_ac (b k l : List (BitVec 8)) (hb : b.length = 32) (hk : k.length = 32) (hl : l.length = 32) : AC Tryd.prog 7 [.u8s b, .u8s k, .u8s l] 0 [gR] ⟨.bool true, [], []⟩ := by
  obtain ⟨s, c, hs1, -, hs, hc, -, h1, h2, -⟩ := seal_ex b k hb hk
  obtain ⟨t, d, ht1, -, ht, hd, -, h3, -, -⟩ := seal_ex b l hb hl
  have hi : s = t ↔ k = l := by rw [hs1, ht1]; exact mask_inj hk hl
  have hq : (D.u8s s).eqb (D.u8s t) = (D.u8s k).eqb (D.u8s l) := decide_eq_decide.2 hi
  clear hs1 ht1
  have haw := wawake_ac
  refine acA tab mix Tryd.func7 {} ?_
  repeat first | refine EffG.mk (obA ?_) | refine obA ?_ | refine chkA ?_
  refine callA h1 [] ?_
  repeat first | refine EffG.mk (obA ?_) | refine obA ?_ | refine chkA ?_
  refine callA h3 [] ?_
  repeat first | refine EffG.mk (obA ?_) | refine obA ?_ | refine chkA ?_
  refine callA h2 [] ?_
  repeat first | refine EffG.mk (obA ?_) | refine obA ?_ | refine chkA ?_ | refine brY ?_ | refine brN ?_
  refine callA haw [] ?_
  repeat first | refine EffG.mk (obA ?_) | refine obA ?_ | refine chkA ?_ | refine brY ?_ | refine brN ?_
  refine retA []

theorem wrapmask_ac (b k l : List (BitVec 8)) (hb : b.length = 32) (hk : k.length = 32) (hl : l.length = 32) : AC Tryd.prog 9 [.u8s b, .u8s k, .u8s l] 0 [gR] ⟨.bool true, [], []⟩ := by
  have hx : ∀ i, i < 32 → (maskF b k).getD i 0 ^^^ (maskF b l).getD i 0 = k.getD i 0 ^^^ l.getD i 0 := fun i hi => by
    rw [maskF_at b k hk i hi, maskF_at b l hl i hi, BitVec.xor_assoc, BitVec.xor_comm (mkB b i), BitVec.xor_assoc, BitVec.xor_self, BitVec.xor_zero]
  obtain ⟨s, c, hs1, -, hs, hc, -, h1, -, -⟩ := seal_ex b k hb hk
  obtain ⟨t, d, ht1, -, ht, hd, -, h3, -, -⟩ := seal_ex b l hb hl
  rw [← hs1, ← ht1] at hx
  clear hs1 ht1
  have haw := wawake_ac
  refine acA tab mix Tryd.func9 {} ?_
  repeat first | refine EffG.mk (obA ?_) | refine obA ?_ | refine chkA ?_
  refine callA h1 [] ?_
  repeat first | refine EffG.mk (obA ?_) | refine obA ?_ | refine chkA ?_
  refine callA h3 [] ?_
  repeat first | refine EffG.mk (obA ?_) | refine obA ?_ | refine chkA ?_
  refine loopG Nat (fun i => [(4, .ptr 1 []), (5, .ptr 2 []), (7, .ptr 3 []), (9, .ptr 4 []), (11, .i64 i)]) (fun i => [(1, some ⟨t32, .u8s k, true⟩), (2, some ⟨t32, .u8s l, true⟩), (3, some ⟨t32, .u8s s, true⟩), (4, some ⟨t32, .u8s t, true⟩), gR]) 5 (fun i => i ≤ 32) (fun i => 32 - i) 0 [0, 1, 2, 3, 5] (Nat.zero_le _) viewA ?_
  intro i hi
  repeat first | refine EffG.mk (obA ?_) | refine obA ?_ | refine chkA ?_
  refine Br.split (fun h => ?_) (fun h => ?_)
  · have hi : i < 32 := by have := of_decide_eq_true h; omega
    have hq := hx i hi
    repeat first | refine EffG.mk (obA ?_) | refine obA ?_ | refine chkA ?_
    refine Br.no ?_ ?_
    · show (!decide (s.getD i 0 ^^^ t.getD i 0 = k.getD i 0 ^^^ l.getD i 0)) = false
      rw [decide_eq_true hq]; rfl
    repeat first | refine EffG.mk (obA ?_) | refine obA ?_ | refine chkA ?_
    refine nextA (i + 1) [0, 1, 2, 3, 4] viewA
  · obtain rfl : i = 32 := by have := of_decide_eq_false h; omega
    repeat first | refine EffG.mk (obA ?_) | refine obA ?_ | refine chkA ?_
    refine callA haw [] ?_
    repeat first | refine EffG.mk (obA ?_) | refine obA ?_ | refine chkA ?_
    refine retA []

theorem set_ne {l : List (BitVec 8)} {i : Nat} {t : BitVec 8} (hi : i < l.length) (ht : t ≠ 0) : l ≠ l.set i (l.getD i 0 ^^^ t) := by
  intro h
  have h2 := congrArg (fun x => x.getD i 0) h
  simp only [getD_set hi, if_true] at h2
  have : t = 0 := by
    rw [← xor_cancel (l.getD i 0) t, ← h2, BitVec.xor_self]; rfl
  exact ht this
theorem open_no (b s c : List (BitVec 8)) (hb : b.length = 32) (hs : s.length = 32) (hc : c.length = 32) (h : ¬ chkF b s = c) : AC Tryd.prog 23 [.u8s b, .u8s s, .u8s c] 0 [gR] ⟨.tup [.u8s (List.replicate 32 0), .i64 30], [], []⟩ := by
  have := open_ac b s c hb hs hc
  rw [if_neg h, if_neg h] at this
  exact this
theorem open_any (b s c : List (BitVec 8)) (hb : b.length = 32) (hs : s.length = 32) (hc : c.length = 32) : ∃ (y : List (BitVec 8)) (f : Int), y.length = 32 ∧ AC Tryd.prog 23 [.u8s b, .u8s s, .u8s c] 0 [gR] ⟨.tup [.u8s y, .i64 f], [], []⟩ ∧
    ((f = 30 ∧ y = List.replicate 32 0) ∨ (f = 0 ∧ AC Tryd.prog 20 [.u8s b, .u8s s] 0 [gR] ⟨.u8s c, [], []⟩)) := by
  by_cases h : chkF b s = c
  · have := open_ac b s c hb hs hc
    rw [if_pos h, if_pos h] at this
    have h2 := check_ac b s hb hs
    rw [h] at h2
    exact ⟨_, _, (maskF_length b s).trans hs, this, .inr ⟨rfl, h2⟩⟩
  · exact ⟨_, _, rfl, open_no b s c hb hs hc h, .inl ⟨rfl, rfl⟩⟩

set_option maxHeartbeats 1000000 in
theorem wrapturned_ac (b o k : List (BitVec 8)) (at_ turn : BitVec 8) (hb : b.length = 32) (ho : o.length = 32) (hk : k.length = 32) : AC Tryd.prog 8 [.node [.u8s b, .u8s o, .u8s k], .u8 at_, .u8 turn] 0 [gR] ⟨.bool true, [], []⟩ := by
  obtain ⟨s, c, hs1, hc1, hs, hc, -, h1, -, -⟩ := seal_ex b k hb hk
  have haw := wawake_ac
  have hq : (at_ % BitVec.ofNat 8 (Int.toNat 32)).toNat < 32 := by rw [BitVec.toNat_umod]; exact Nat.mod_lt _ (by decide)
  by_cases h0 : turn = 0
  · refine acA tab mix Tryd.func8 {} ?_
    repeat first | refine EffG.mk (obA ?_) | refine obA ?_ | refine chkA ?_
    refine EffG.mk (And.intro ⟨trivial, hb⟩ ?_)
    repeat first | refine EffG.mk (obA ?_) | refine obA ?_ | refine chkA ?_
    refine EffG.mk (And.intro ⟨trivial, ho⟩ ?_)
    repeat first | refine EffG.mk (obA ?_) | refine obA ?_ | refine chkA ?_
    refine EffG.mk (And.intro ⟨trivial, hk⟩ ?_)
    repeat first | refine EffG.mk (obA ?_) | refine obA ?_ | refine chkA ?_
    refine callA h1 [] ?_
    repeat first | refine EffG.mk (obA ?_) | refine obA ?_ | refine chkA ?_
    refine Br.yes (decide_eq_true h0) ?_
    repeat first | refine EffG.mk (obA ?_) | refine obA ?_ | refine chkA ?_
    refine callA haw [] ?_
    repeat first | refine EffG.mk (obA ?_) | refine obA ?_ | refine chkA ?_
    refine retA []
  have hn : decide (turn = BitVec.ofNat 8 (Int.toNat 0)) = false := decide_eq_false h0
  have hd := open_no b s (c.set (at_ % BitVec.ofNat 8 (Int.toNat 32)).toNat (c.getD (at_ % BitVec.ofNat 8 (Int.toNat 32)).toNat 0 ^^^ turn)) hb hs (by rw [List.length_set, hc]) (by rw [← hc1]; exact set_ne (by omega) h0)
  have hsl : (s.set (at_ % BitVec.ofNat 8 (Int.toNat 32)).toNat (s.getD (at_ % BitVec.ofNat 8 (Int.toNat 32)).toNat 0 ^^^ turn)).length = 32 := by rw [List.length_set, hs]
  obtain ⟨y, f, hy, hf, hyf⟩ := open_any b _ c hb hsl hc
  obtain ⟨z, g, hz, hg, hzg⟩ := open_any o s c ho hs hc
  clear hs1 hc1 hsl
  rcases hyf with ⟨rfl, rfl⟩ | ⟨rfl, hcy⟩ <;> rcases hzg with ⟨rfl, rfl⟩ | ⟨rfl, hcz⟩
  all_goals
    refine acA tab mix Tryd.func8 {} ?_
    repeat first | refine EffG.mk (obA ?_) | refine obA ?_ | refine chkA ?_
    refine EffG.mk (And.intro ⟨trivial, hb⟩ ?_)
    repeat first | refine EffG.mk (obA ?_) | refine obA ?_ | refine chkA ?_
    refine EffG.mk (And.intro ⟨trivial, ho⟩ ?_)
    repeat first | refine EffG.mk (obA ?_) | refine obA ?_ | refine chkA ?_
    refine EffG.mk (And.intro ⟨trivial, hk⟩ ?_)
    repeat first | refine EffG.mk (obA ?_) | refine obA ?_ | refine chkA ?_
    refine callA h1 [] ?_
    repeat first | refine EffG.mk (obA ?_) | refine obA ?_ | refine chkA ?_
    refine Br.no hn ?_
    repeat first | refine EffG.mk (obA ?_) | refine obA ?_ | refine chkA ?_
    refine callA hd [] ?_
    repeat first | refine EffG.mk (obA ?_) | refine obA ?_ | refine chkA ?_
    refine callA hf [] ?_
    repeat first | refine EffG.mk (obA ?_) | refine obA ?_ | refine chkA ?_
    refine callA hg [] ?_
    repeat first | refine EffG.mk (obA ?_) | refine obA ?_ | refine chkA ?_ | refine brY ?_ | refine brN ?_
  · refine callA haw [] ?_
    repeat first | refine EffG.mk (obA ?_) | refine obA ?_ | refine chkA ?_
    refine retA []
  · refine callA hcz [] ?_
    repeat first | refine EffG.mk (obA ?_) | refine obA ?_ | refine chkA ?_ | refine brY ?_ | refine brN ?_
    refine callA haw [] ?_
    repeat first | refine EffG.mk (obA ?_) | refine obA ?_ | refine chkA ?_
    refine retA []
  · refine callA hcy [] ?_
    repeat first | refine EffG.mk (obA ?_) | refine obA ?_ | refine chkA ?_ | refine brY ?_ | refine brN ?_
    refine callA haw [] ?_
    repeat first | refine EffG.mk (obA ?_) | refine obA ?_ | refine chkA ?_
    refine retA []
  · refine callA hcy [] ?_
    repeat first | refine EffG.mk (obA ?_) | refine obA ?_ | refine chkA ?_ | refine brY ?_ | refine brN ?_
    refine callA hcz [] ?_
    repeat first | refine EffG.mk (obA ?_) | refine obA ?_ | refine chkA ?_ | refine brY ?_ | refine brN ?_
    refine callA haw [] ?_
    repeat first | refine EffG.mk (obA ?_) | refine obA ?_ | refine chkA ?_
    refine retA []
end Go.Proofs.YtljkjdhkofbgmaaDoor.Av
