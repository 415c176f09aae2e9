import Derived.Test.YtodkhgofmgaafaaDoorM6
import Derived.Test.YtodkhgofmgaafaaDoorM4
namespace Go.Proofs.YtodkhgofmgaafaaDoor.Av
open Go
set_option linter.all false
set_option maxRecDepth 3000

/-! the document's round keys -/
abbrev t256 : Ty := .arr 256 .cell
abbrev gB : Mem := [(gid 1, some ⟨t256, .u8s boxL, false⟩)]
abbrev t60 : Ty := .arr 60 (.arr 4 .cell)

theorem gx1 (b : BitVec 8) : (0 ≤ (b.toNat : Int) ∧ (b.toNat : Int) < ((256 : Nat) : Int)) := by
  have := b.isLt
  omega
theorem gx2 (b : BitVec 8) : ((b.toNat : Int).toNat < boxL.length ∧ True) := by
  have := b.isLt
  rw [boxL_length, Int.toNat_natCast]
  exact ⟨by omega, trivial⟩

def rtF (ws : List (List (BitVec 8))) (i : Nat) : List (BitVec 8) :=
  let t := ws.getD (i - 1) []
  if i % 8 = 0 then [sboxF (t.getD 1 0) ^^^ rpowF 2 (i / 8 - 1), sboxF (t.getD 2 0), sboxF (t.getD 3 0), sboxF (t.getD 0 0)]
  else if i % 8 = 4 then [sboxF (t.getD 0 0), sboxF (t.getD 1 0), sboxF (t.getD 2 0), sboxF (t.getD 3 0)] else t
def rkI (ws : List (List (BitVec 8))) (i : Nat) (t : List (BitVec 8)) : Nat → List (List (BitVec 8))
  | 0 => ws
  | k + 1 => (rkI ws i t k).set i (((rkI ws i t k).getD i []).set k (((rkI ws i t k).getD (i - 8) []).getD k 0 ^^^ t.getD k 0))
def rwI (key : List (BitVec 8)) : Nat → List (List (BitVec 8))
  | 0 => List.replicate 60 (List.replicate 4 0)
  | i + 1 => if i < 8 then (rwI key i).set i [key.getD (4 * i) 0, key.getD (4 * i + 1) 0, key.getD (4 * i + 2) 0, key.getD (4 * i + 3) 0]
    else rkI (rwI key i) i (rtF (rwI key i) i) 4
def roK (ws o : List (List (BitVec 8))) (i : Nat) : Nat → List (List (BitVec 8))
  | 0 => o
  | k + 1 => (roK ws o i k).set (i / 4) (((roK ws o i k).getD (i / 4) []).set (4 * (i % 4) + k) ((ws.getD i []).getD k 0))
def roI (ws : List (List (BitVec 8))) : Nat → List (List (BitVec 8))
  | 0 => List.replicate 15 (List.replicate 16 0)
  | i + 1 => roK ws (roI ws i) i 4
def rschF (key : List (BitVec 8)) : List (List (BitVec 8)) := roI (rwI key 60) 60

theorem rtF_length {ws : List (List (BitVec 8))} (h : Rows 60 4 ws) (i : Nat) (hi : i < 60) : (rtF ws i).length = 4 := by
  unfold rtF
  simp only []
  split
  · rfl
  · split
    · rfl
    · exact h.get (by omega)
theorem rkI_rows {ws : List (List (BitVec 8))} (h : Rows 60 4 ws) (i : Nat) (hi : i < 60) (t : List (BitVec 8)) : ∀ k, Rows 60 4 (rkI ws i t k)
  | 0 => h
  | k + 1 => (rkI_rows h i hi t k).set i (by rw [List.length_set]; exact (rkI_rows h i hi t k).get hi)
theorem rwI_rows (key : List (BitVec 8)) : ∀ i, i ≤ 60 → Rows 60 4 (rwI key i)
  | 0, _ => Rows.rep 60 4
  | i + 1, h => by
    have ih := rwI_rows key i (by omega)
    rw [rwI]
    split
    · exact ih.set i rfl
    · exact rkI_rows ih i (by omega) _ 4
theorem roK_rows {o : List (List (BitVec 8))} (ws : List (List (BitVec 8))) (h : Rows 15 16 o) (i : Nat) (hi : i < 60) : ∀ k, Rows 15 16 (roK ws o i k)
  | 0 => h
  | k + 1 => (roK_rows ws h i hi k).set _ (by rw [List.length_set]; exact (roK_rows ws h i hi k).get (by omega))
theorem roI_rows (ws : List (List (BitVec 8))) : ∀ i, i ≤ 60 → Rows 15 16 (roI ws i)
  | 0, _ => Rows.rep 15 16
  | i + 1, h => by rw [roI]; exact roK_rows ws (roI_rows ws i (by omega)) i (by omega) 4

theorem rsch_ac (key : List (BitVec 8)) (hk : key.length = 32) : AC Tryd.prog 127 [.u8s key] 0 gB ⟨.node ((rschF key).map .u8s), [], []⟩ := by
  refine ac_of tab mix Tryd.func127 rfl (by kernel_rfl) (by kernel_rfl) (by kernel_rfl) ⟨[12], []⟩ ?_
  repeat first | (refine EffG.mk (And.intro ?_ ?_); focus ((repeat' (first | exact trivial | refine And.intro ?_ ?_)) <;> (first | omega | (simp only [hasTy, okP, lenD, D.ren, D.isCell, Option.getD, List.length_set, List.length_take, List.length_drop, List.length_append, List.length_replicate, List.length_map, List.length_cons, List.length_nil, Option.map] <;> omega) | with_reducible assumption | with_reducible rfl | decide); done)) | (refine And.intro ?_ ?_; focus ((repeat' (first | exact trivial | refine And.intro ?_ ?_)) <;> (first | omega | (simp only [hasTy, okP, lenD, D.ren, D.isCell, Option.getD, List.length_set, List.length_take, List.length_drop, List.length_append, List.length_replicate, List.length_map, List.length_cons, List.length_nil, Option.map] <;> omega) | with_reducible assumption | with_reducible rfl | decide); done)) | refine chkG (by kernel_rfl) ?_
  refine loopG Nat (fun i => [(1, .ptr 0 []), (2, .ptr 1 []), (3, .ptr 2 []), (4, .i64 i)])
    (fun i => [(0, some ⟨t32, .u8s key, true⟩), (1, some ⟨t15, .node (List.replicate 15 (.u8s (List.replicate 16 0))), true⟩), (2, some ⟨t60, .node ((rwI key i).map .u8s), true⟩), (gid 1, some ⟨t256, .u8s boxL, false⟩)]) 3
    (fun i => i ≤ 60) (fun i => 60 - i) 0 [0, 1, 2] (Nat.zero_le _) ?_ ?_
  · exact viewG rfl ⟨rfl, rfl, rfl, rfl, trivial⟩ ⟨⟨_, rfl, rfl, rfl, id⟩, ⟨_, rfl, rfl, rfl, id⟩, ⟨_, rfl, rfl, rfl, id⟩, ⟨_, rfl, rfl, rfl, id⟩, trivial⟩ rfl
  intro i hi
  have hr := rwI_rows key i hi
  have hl : ((rwI key i).map D.u8s).length = 60 := by rw [List.length_map, hr.1]
  repeat first | (refine EffG.mk (And.intro ?_ ?_); focus ((repeat' (first | exact trivial | refine And.intro ?_ ?_)) <;> (first | omega | (simp only [hasTy, okP, lenD, D.ren, D.isCell, Option.getD, List.length_set, List.length_take, List.length_drop, List.length_append, List.length_replicate, List.length_map, List.length_cons, List.length_nil, Option.map] <;> omega) | with_reducible assumption | with_reducible rfl | decide); done)) | (refine And.intro ?_ ?_; focus ((repeat' (first | exact trivial | refine And.intro ?_ ?_)) <;> (first | omega | (simp only [hasTy, okP, lenD, D.ren, D.isCell, Option.getD, List.length_set, List.length_take, List.length_drop, List.length_append, List.length_replicate, List.length_map, List.length_cons, List.length_nil, Option.map] <;> omega) | with_reducible assumption | with_reducible rfl | decide); done)) | refine chkG (by kernel_rfl) ?_
  refine Br.split (fun h => ?_) (fun h => ?_)
  · have hi : i < 60 := by have := of_decide_eq_true h; omega
    repeat first | (refine EffG.mk (And.intro ?_ ?_); focus ((repeat' (first | exact trivial | refine And.intro ?_ ?_)) <;> (first | omega | (simp only [hasTy, okP, lenD, D.ren, D.isCell, Option.getD, List.length_set, List.length_take, List.length_drop, List.length_append, List.length_replicate, List.length_map, List.length_cons, List.length_nil, Option.map] <;> omega) | with_reducible assumption | with_reducible rfl | decide); done)) | (refine And.intro ?_ ?_; focus ((repeat' (first | exact trivial | refine And.intro ?_ ?_)) <;> (first | omega | (simp only [hasTy, okP, lenD, D.ren, D.isCell, Option.getD, List.length_set, List.length_take, List.length_drop, List.length_append, List.length_replicate, List.length_map, List.length_cons, List.length_nil, Option.map] <;> omega) | with_reducible assumption | with_reducible rfl | decide); done)) | refine chkG (by kernel_rfl) ?_
    refine Br.split (fun h => ?_) (fun h => ?_)
    · have h8 : i < 8 := by have := of_decide_eq_true h; omega
      repeat first | (refine EffG.mk (And.intro ?_ ?_); focus ((repeat' (first | exact trivial | refine And.intro ?_ ?_)) <;> (first | omega | (simp only [hasTy, okP, lenD, D.ren, D.isCell, Option.getD, List.length_set, List.length_take, List.length_drop, List.length_append, List.length_replicate, List.length_map, List.length_cons, List.length_nil, Option.map] <;> omega) | with_reducible assumption | with_reducible rfl | decide); done)) | (refine And.intro ?_ ?_; focus ((repeat' (first | exact trivial | refine And.intro ?_ ?_)) <;> (first | omega | (simp only [hasTy, okP, lenD, D.ren, D.isCell, Option.getD, List.length_set, List.length_take, List.length_drop, List.length_append, List.length_replicate, List.length_map, List.length_cons, List.length_nil, Option.map] <;> omega) | with_reducible assumption | with_reducible rfl | decide); done)) | refine chkG (by kernel_rfl) ?_
      refine nextG (i + 1) [0, 1, 2] ?_ ?_ ?_
      · omega
      · omega
      · refine viewG rfl ⟨rfl, rfl, rfl, rfl, trivial⟩ ⟨⟨_, rfl, rfl, rfl, id⟩, ⟨_, rfl, rfl, rfl, id⟩, ⟨_, rfl, rfl, ?_, id⟩, ⟨_, rfl, rfl, rfl, id⟩, trivial⟩ rfl
        rw [ren_rows, rwI, if_pos h8, List.map_set]
        rfl
    · have h8 : ¬ i < 8 := by have := of_decide_eq_false h; omega
      have q1 : (i : Int) - 1 = ((i - 1 : Nat) : Int) := by omega
      have ht0 : ((rwI key i).getD (i - 1) []).length = 4 := hr.get (by omega)
      have htl := rtF_length hr i hi
      have q4 : Int.tmod (i : Int) 8 = ((i % 8 : Nat) : Int) := (Int.ofNat_tmod i 8).symm
      have q5 : Int.tdiv (i : Int) 8 = ((i / 8 : Nat) : Int) := (Int.ofNat_tdiv i 8).symm
      repeat first | rw [q1] | (rw [nthD_u8s (l := rwI key i)]; rotate_left; (rw [hr.1]; omega)) | rw [Int.toNat_natCast (i - 1)] | (refine EffG.mk (And.intro ?_ ?_); focus ((repeat' (first | exact trivial | refine And.intro ?_ ?_)) <;> (first | omega | (simp only [hasTy, okP, lenD, D.ren, D.isCell, Option.getD, List.length_set, List.length_take, List.length_drop, List.length_append, List.length_replicate, List.length_map, List.length_cons, List.length_nil, Option.map] <;> omega) | with_reducible assumption | with_reducible rfl | decide); done)) | (refine And.intro ?_ ?_; focus ((repeat' (first | exact trivial | refine And.intro ?_ ?_)) <;> (first | omega | (simp only [hasTy, okP, lenD, D.ren, D.isCell, Option.getD, List.length_set, List.length_take, List.length_drop, List.length_append, List.length_replicate, List.length_map, List.length_cons, List.length_nil, Option.map] <;> omega) | with_reducible assumption | with_reducible rfl | decide); done)) | refine chkG (by kernel_rfl) ?_
      refine joinG Unit (fun _ => [(1, .ptr 0 []), (2, .ptr 1 []), (3, .ptr 2 []), (4, .i64 i), (5, .ptr 3 [])])
        (fun _ => [(0, some ⟨t32, .u8s key, true⟩), (1, some ⟨t15, .node (List.replicate 15 (.u8s (List.replicate 16 0))), true⟩), (2, some ⟨t60, .node ((rwI key i).map .u8s), true⟩), (3, some ⟨t4, .u8s (rtF (rwI key i) i), true⟩), (gid 1, some ⟨t256, .u8s boxL, false⟩)]) 4 (fun _ => True) ?_ ?_
      · repeat first | rw [q4] | (refine EffG.mk (And.intro ?_ ?_); focus ((repeat' (first | exact trivial | refine And.intro ?_ ?_)) <;> (first | omega | (simp only [hasTy, okP, lenD, D.ren, D.isCell, Option.getD, List.length_set, List.length_take, List.length_drop, List.length_append, List.length_replicate, List.length_map, List.length_cons, List.length_nil, Option.map] <;> omega) | with_reducible assumption | with_reducible rfl | decide); done)) | (refine And.intro ?_ ?_; focus ((repeat' (first | exact trivial | refine And.intro ?_ ?_)) <;> (first | omega | (simp only [hasTy, okP, lenD, D.ren, D.isCell, Option.getD, List.length_set, List.length_take, List.length_drop, List.length_append, List.length_replicate, List.length_map, List.length_cons, List.length_nil, Option.map] <;> omega) | with_reducible assumption | with_reducible rfl | decide); done)) | refine chkG (by kernel_rfl) ?_
        refine Br.split (fun h0 => ?_) (fun h0 => ?_)
        · have h0 : i % 8 = 0 := by have := of_decide_eq_true h0; omega
          have q6 : ((i / 8 : Nat) : Int) - 1 = ((i / 8 - 1 : Nat) : Int) := by omega
          repeat first | rw [q5] | rw [q6] | refine EffG.mk (And.intro (gx1 _) ?_) | refine EffG.mk (And.intro (gx2 _) ?_) | (refine EffG.mk (And.intro ?_ ?_); focus ((repeat' (first | exact trivial | refine And.intro ?_ ?_)) <;> (first | omega | (simp only [hasTy, okP, lenD, D.ren, D.isCell, Option.getD, List.length_set, List.length_take, List.length_drop, List.length_append, List.length_replicate, List.length_map, List.length_cons, List.length_nil, Option.map] <;> omega) | with_reducible assumption | with_reducible rfl | decide); done)) | (refine And.intro ?_ ?_; focus ((repeat' (first | exact trivial | refine And.intro ?_ ?_)) <;> (first | omega | (simp only [hasTy, okP, lenD, D.ren, D.isCell, Option.getD, List.length_set, List.length_take, List.length_drop, List.length_append, List.length_replicate, List.length_map, List.length_cons, List.length_nil, Option.map] <;> omega) | with_reducible assumption | with_reducible rfl | decide); done)) | refine chkG (by kernel_rfl) ?_
          refine callG (rpow_ac 2 (by decide) (i / 8 - 1) (by omega)) [] rfl rfl trivial rfl rfl ?_
          repeat first | refine EffG.mk (And.intro (gx1 _) ?_) | refine EffG.mk (And.intro (gx2 _) ?_) | (refine EffG.mk (And.intro ?_ ?_); focus ((repeat' (first | exact trivial | refine And.intro ?_ ?_)) <;> (first | omega | (simp only [hasTy, okP, lenD, D.ren, D.isCell, Option.getD, List.length_set, List.length_take, List.length_drop, List.length_append, List.length_replicate, List.length_map, List.length_cons, List.length_nil, Option.map] <;> omega) | with_reducible assumption | with_reducible rfl | decide); done)) | (refine And.intro ?_ ?_; focus ((repeat' (first | exact trivial | refine And.intro ?_ ?_)) <;> (first | omega | (simp only [hasTy, okP, lenD, D.ren, D.isCell, Option.getD, List.length_set, List.length_take, List.length_drop, List.length_append, List.length_replicate, List.length_map, List.length_cons, List.length_nil, Option.map] <;> omega) | with_reducible assumption | with_reducible rfl | decide); done)) | refine chkG (by kernel_rfl) ?_
          refine meetG () [0, 1, 2, 3] trivial (viewG rfl ⟨rfl, rfl, rfl, rfl, rfl, trivial⟩ ⟨⟨_, rfl, rfl, rfl, id⟩, ⟨_, rfl, rfl, rfl, id⟩, ⟨_, rfl, rfl, (ren_rows _ _).symm, id⟩, ⟨_, rfl, rfl, congrArg D.u8s ?_, id⟩, ⟨_, rfl, rfl, rfl, id⟩, trivial⟩ rfl)
          unfold rtF
          rw [if_pos h0]
          rfl
        · have h0 : ¬ i % 8 = 0 := by have := of_decide_eq_false h0; omega
          repeat first | rw [q4] | (refine EffG.mk (And.intro ?_ ?_); focus ((repeat' (first | exact trivial | refine And.intro ?_ ?_)) <;> (first | omega | (simp only [hasTy, okP, lenD, D.ren, D.isCell, Option.getD, List.length_set, List.length_take, List.length_drop, List.length_append, List.length_replicate, List.length_map, List.length_cons, List.length_nil, Option.map] <;> omega) | with_reducible assumption | with_reducible rfl | decide); done)) | (refine And.intro ?_ ?_; focus ((repeat' (first | exact trivial | refine And.intro ?_ ?_)) <;> (first | omega | (simp only [hasTy, okP, lenD, D.ren, D.isCell, Option.getD, List.length_set, List.length_take, List.length_drop, List.length_append, List.length_replicate, List.length_map, List.length_cons, List.length_nil, Option.map] <;> omega) | with_reducible assumption | with_reducible rfl | decide); done)) | refine chkG (by kernel_rfl) ?_
          refine Br.split (fun h4 => ?_) (fun h4 => ?_)
          · have h4 : i % 8 = 4 := by have := of_decide_eq_true h4; omega
            repeat first | refine EffG.mk (And.intro (gx1 _) ?_) | refine EffG.mk (And.intro (gx2 _) ?_) | (refine EffG.mk (And.intro ?_ ?_); focus ((repeat' (first | exact trivial | refine And.intro ?_ ?_)) <;> (first | omega | (simp only [hasTy, okP, lenD, D.ren, D.isCell, Option.getD, List.length_set, List.length_take, List.length_drop, List.length_append, List.length_replicate, List.length_map, List.length_cons, List.length_nil, Option.map] <;> omega) | with_reducible assumption | with_reducible rfl | decide); done)) | (refine And.intro ?_ ?_; focus ((repeat' (first | exact trivial | refine And.intro ?_ ?_)) <;> (first | omega | (simp only [hasTy, okP, lenD, D.ren, D.isCell, Option.getD, List.length_set, List.length_take, List.length_drop, List.length_append, List.length_replicate, List.length_map, List.length_cons, List.length_nil, Option.map] <;> omega) | with_reducible assumption | with_reducible rfl | decide); done)) | refine chkG (by kernel_rfl) ?_
            refine meetG () [0, 1, 2, 3] trivial (viewG rfl ⟨rfl, rfl, rfl, rfl, rfl, trivial⟩ ⟨⟨_, rfl, rfl, rfl, id⟩, ⟨_, rfl, rfl, rfl, id⟩, ⟨_, rfl, rfl, (ren_rows _ _).symm, id⟩, ⟨_, rfl, rfl, congrArg D.u8s ?_, id⟩, ⟨_, rfl, rfl, rfl, id⟩, trivial⟩ rfl)
            unfold rtF
            rw [if_neg h0, if_pos h4]
            rfl
          · have h4 : ¬ i % 8 = 4 := by have := of_decide_eq_false h4; omega
            refine meetG () [0, 1, 2, 3] trivial (viewG rfl ⟨rfl, rfl, rfl, rfl, rfl, trivial⟩ ⟨⟨_, rfl, rfl, rfl, id⟩, ⟨_, rfl, rfl, rfl, id⟩, ⟨_, rfl, rfl, (ren_rows _ _).symm, id⟩, ⟨_, rfl, rfl, congrArg D.u8s ?_, id⟩, ⟨_, rfl, rfl, rfl, id⟩, trivial⟩ rfl)
            unfold rtF
            rw [if_neg h0, if_neg h4]
      intro _ _
      have hnext : rwI key (i + 1) = rkI (rwI key i) i (rtF (rwI key i) i) 4 := by rw [rwI, if_neg h8]
      generalize rtF (rwI key i) i = t at htl hnext ⊢
      generalize rwI key i = ws at hr hl hnext ⊢
      repeat first | (refine EffG.mk (And.intro ?_ ?_); focus ((repeat' (first | exact trivial | refine And.intro ?_ ?_)) <;> (first | omega | (simp only [hasTy, okP, lenD, D.ren, D.isCell, Option.getD, List.length_set, List.length_take, List.length_drop, List.length_append, List.length_replicate, List.length_map, List.length_cons, List.length_nil, Option.map] <;> omega) | with_reducible assumption | with_reducible rfl | decide); done)) | (refine And.intro ?_ ?_; focus ((repeat' (first | exact trivial | refine And.intro ?_ ?_)) <;> (first | omega | (simp only [hasTy, okP, lenD, D.ren, D.isCell, Option.getD, List.length_set, List.length_take, List.length_drop, List.length_append, List.length_replicate, List.length_map, List.length_cons, List.length_nil, Option.map] <;> omega) | with_reducible assumption | with_reducible rfl | decide); done)) | refine chkG (by kernel_rfl) ?_
      refine loopG Nat (fun k => [(1, .ptr 0 []), (2, .ptr 1 []), (3, .ptr 2 []), (4, .i64 i), (5, .ptr 3 []), (6, .i64 k)])
        (fun k => [(0, some ⟨t32, .u8s key, true⟩), (1, some ⟨t15, .node (List.replicate 15 (.u8s (List.replicate 16 0))), true⟩), (2, some ⟨t60, .node ((rkI ws i t k).map .u8s), true⟩), (3, some ⟨t4, .u8s t, true⟩), (gid 1, some ⟨t256, .u8s boxL, false⟩)]) 4
        (fun k => k ≤ 4) (fun k => 4 - k) 0 [0, 1, 2, 3] (Nat.zero_le _) ?_ ?_
      · exact viewG rfl ⟨rfl, rfl, rfl, rfl, rfl, rfl, trivial⟩ ⟨⟨_, rfl, rfl, rfl, id⟩, ⟨_, rfl, rfl, rfl, id⟩, ⟨_, rfl, rfl, (ren_rows _ _).symm, id⟩, ⟨_, rfl, rfl, rfl, id⟩, ⟨_, rfl, rfl, rfl, id⟩, trivial⟩ rfl
      intro k hk4
      have hv := rkI_rows hr i hi t k
      repeat first | (refine EffG.mk (And.intro ?_ ?_); focus ((repeat' (first | exact trivial | refine And.intro ?_ ?_)) <;> (first | omega | (simp only [hasTy, okP, lenD, D.ren, D.isCell, Option.getD, List.length_set, List.length_take, List.length_drop, List.length_append, List.length_replicate, List.length_map, List.length_cons, List.length_nil, Option.map] <;> omega) | with_reducible assumption | with_reducible rfl | decide); done)) | (refine And.intro ?_ ?_; focus ((repeat' (first | exact trivial | refine And.intro ?_ ?_)) <;> (first | omega | (simp only [hasTy, okP, lenD, D.ren, D.isCell, Option.getD, List.length_set, List.length_take, List.length_drop, List.length_append, List.length_replicate, List.length_map, List.length_cons, List.length_nil, Option.map] <;> omega) | with_reducible assumption | with_reducible rfl | decide); done)) | refine chkG (by kernel_rfl) ?_
      refine Br.split (fun h => ?_) (fun h => ?_)
      · have hk4 : k < 4 := by have := of_decide_eq_true h; omega
        have p1 : (i : Int) - 8 = ((i - 8 : Nat) : Int) := by omega
        have hv1 : (rkI ws i t k).length = 60 := hv.1
        have hv2 : ((rkI ws i t k).getD (i - 8) []).length = 4 := hv.get (by omega)
        have hv3 : ((rkI ws i t k).getD i []).length = 4 := hv.get hi
        repeat first | rw [p1] | rw [Int.toNat_natCast] | (refine EffG.mk (And.intro ?_ ?_); focus ((repeat' (first | exact trivial | refine And.intro ?_ ?_)) <;> (first | omega | (simp only [hasTy, okP, lenD, D.ren, D.isCell, Option.getD, List.length_set, List.length_take, List.length_drop, List.length_append, List.length_replicate, List.length_map, List.length_cons, List.length_nil, Option.map] <;> omega) | with_reducible assumption | with_reducible rfl | decide); done)) | (refine And.intro ?_ ?_; focus ((repeat' (first | exact trivial | refine And.intro ?_ ?_)) <;> (first | omega | (simp only [hasTy, okP, lenD, D.ren, D.isCell, Option.getD, List.length_set, List.length_take, List.length_drop, List.length_append, List.length_replicate, List.length_map, List.length_cons, List.length_nil, Option.map] <;> omega) | with_reducible assumption | with_reducible rfl | decide); done)) | refine chkG (by kernel_rfl) ?_
        refine loadG (.u8 (((rkI ws i t k).getD (i - 8) []).getD k 0)) rfl rfl rfl rfl rfl (getP_row k (by omega)) (okP_row (by omega) (by omega)) ?_
        repeat first | rw [Int.toNat_natCast] | (refine EffG.mk (And.intro ?_ ?_); focus ((repeat' (first | exact trivial | refine And.intro ?_ ?_)) <;> (first | omega | (simp only [hasTy, okP, lenD, D.ren, D.isCell, Option.getD, List.length_set, List.length_take, List.length_drop, List.length_append, List.length_replicate, List.length_map, List.length_cons, List.length_nil, Option.map] <;> omega) | with_reducible assumption | with_reducible rfl | decide); done)) | (refine And.intro ?_ ?_; focus ((repeat' (first | exact trivial | refine And.intro ?_ ?_)) <;> (first | omega | (simp only [hasTy, okP, lenD, D.ren, D.isCell, Option.getD, List.length_set, List.length_take, List.length_drop, List.length_append, List.length_replicate, List.length_map, List.length_cons, List.length_nil, Option.map] <;> omega) | with_reducible assumption | with_reducible rfl | decide); done)) | refine chkG (by kernel_rfl) ?_
        refine storeG (.node ((rkI ws i t (k + 1)).map .u8s)) rfl rfl rfl rfl rfl rfl rfl (getP_row k (by omega)) (setP_row k _ (by omega)) (okP_row (by omega) (by omega)) rfl ?_
        repeat first | (refine EffG.mk (And.intro ?_ ?_); focus ((repeat' (first | exact trivial | refine And.intro ?_ ?_)) <;> (first | omega | (simp only [hasTy, okP, lenD, D.ren, D.isCell, Option.getD, List.length_set, List.length_take, List.length_drop, List.length_append, List.length_replicate, List.length_map, List.length_cons, List.length_nil, Option.map] <;> omega) | with_reducible assumption | with_reducible rfl | decide); done)) | (refine And.intro ?_ ?_; focus ((repeat' (first | exact trivial | refine And.intro ?_ ?_)) <;> (first | omega | (simp only [hasTy, okP, lenD, D.ren, D.isCell, Option.getD, List.length_set, List.length_take, List.length_drop, List.length_append, List.length_replicate, List.length_map, List.length_cons, List.length_nil, Option.map] <;> omega) | with_reducible assumption | with_reducible rfl | decide); done)) | refine chkG (by kernel_rfl) ?_
        refine nextG (k + 1) [0, 1, 2, 3] ?_ ?_ ?_
        · omega
        · omega
        · exact viewG rfl ⟨rfl, rfl, rfl, rfl, rfl, rfl, trivial⟩ ⟨⟨_, rfl, rfl, rfl, id⟩, ⟨_, rfl, rfl, rfl, id⟩, ⟨_, rfl, rfl, (ren_rows _ _).symm, id⟩, ⟨_, rfl, rfl, rfl, id⟩, ⟨_, rfl, rfl, rfl, id⟩, trivial⟩ rfl
      · have hk4 : k = 4 := by have := of_decide_eq_false h; omega
        subst hk4
        repeat first | (refine EffG.mk (And.intro ?_ ?_); focus ((repeat' (first | exact trivial | refine And.intro ?_ ?_)) <;> (first | omega | (simp only [hasTy, okP, lenD, D.ren, D.isCell, Option.getD, List.length_set, List.length_take, List.length_drop, List.length_append, List.length_replicate, List.length_map, List.length_cons, List.length_nil, Option.map] <;> omega) | with_reducible assumption | with_reducible rfl | decide); done)) | (refine And.intro ?_ ?_; focus ((repeat' (first | exact trivial | refine And.intro ?_ ?_)) <;> (first | omega | (simp only [hasTy, okP, lenD, D.ren, D.isCell, Option.getD, List.length_set, List.length_take, List.length_drop, List.length_append, List.length_replicate, List.length_map, List.length_cons, List.length_nil, Option.map] <;> omega) | with_reducible assumption | with_reducible rfl | decide); done)) | refine chkG (by kernel_rfl) ?_
        refine nextG (i + 1) [0, 1, 2] ?_ ?_ ?_
        · omega
        · omega
        · refine viewG rfl ⟨rfl, rfl, rfl, rfl, trivial⟩ ⟨⟨_, rfl, rfl, rfl, id⟩, ⟨_, rfl, rfl, rfl, id⟩, ⟨_, rfl, rfl, ?_, id⟩, ⟨_, rfl, rfl, rfl, id⟩, trivial⟩ rfl
          rw [ren_rows, hnext]
  · have hi : i = 60 := by have := of_decide_eq_false h; omega
    subst hi
    have hout : rschF key = roI (rwI key 60) 60 := rfl
    rw [hout]
    generalize rwI key 60 = ws at hr hl ⊢
    repeat first | (refine EffG.mk (And.intro ?_ ?_); focus ((repeat' (first | exact trivial | refine And.intro ?_ ?_)) <;> (first | omega | (simp only [hasTy, okP, lenD, D.ren, D.isCell, Option.getD, List.length_set, List.length_take, List.length_drop, List.length_append, List.length_replicate, List.length_map, List.length_cons, List.length_nil, Option.map] <;> omega) | with_reducible assumption | with_reducible rfl | decide); done)) | (refine And.intro ?_ ?_; focus ((repeat' (first | exact trivial | refine And.intro ?_ ?_)) <;> (first | omega | (simp only [hasTy, okP, lenD, D.ren, D.isCell, Option.getD, List.length_set, List.length_take, List.length_drop, List.length_append, List.length_replicate, List.length_map, List.length_cons, List.length_nil, Option.map] <;> omega) | with_reducible assumption | with_reducible rfl | decide); done)) | refine chkG (by kernel_rfl) ?_
    refine loopG Nat (fun i => [(2, .ptr 1 []), (3, .ptr 2 []), (7, .ptr 3 []), (8, .i64 i)])
      (fun i => [(1, some ⟨t15, .node (List.replicate 15 (.u8s (List.replicate 16 0))), true⟩), (2, some ⟨t60, .node (ws.map .u8s), true⟩), (3, some ⟨t15, .node ((roI ws i).map .u8s), true⟩), (gid 1, some ⟨t256, .u8s boxL, false⟩)]) 4
      (fun i => i ≤ 60) (fun i => 60 - i) 0 [0, 1, 2, 3] (Nat.zero_le _) ?_ ?_
    · exact viewG rfl ⟨rfl, rfl, rfl, rfl, trivial⟩ ⟨⟨_, rfl, rfl, rfl, id⟩, ⟨_, rfl, rfl, (ren_rows _ _).symm, id⟩, ⟨_, rfl, rfl, rfl, id⟩, ⟨_, rfl, rfl, rfl, id⟩, trivial⟩ rfl
    intro i hi
    have hq := roI_rows ws i hi
    repeat first | (refine EffG.mk (And.intro ?_ ?_); focus ((repeat' (first | exact trivial | refine And.intro ?_ ?_)) <;> (first | omega | (simp only [hasTy, okP, lenD, D.ren, D.isCell, Option.getD, List.length_set, List.length_take, List.length_drop, List.length_append, List.length_replicate, List.length_map, List.length_cons, List.length_nil, Option.map] <;> omega) | with_reducible assumption | with_reducible rfl | decide); done)) | (refine And.intro ?_ ?_; focus ((repeat' (first | exact trivial | refine And.intro ?_ ?_)) <;> (first | omega | (simp only [hasTy, okP, lenD, D.ren, D.isCell, Option.getD, List.length_set, List.length_take, List.length_drop, List.length_append, List.length_replicate, List.length_map, List.length_cons, List.length_nil, Option.map] <;> omega) | with_reducible assumption | with_reducible rfl | decide); done)) | refine chkG (by kernel_rfl) ?_
    refine Br.split (fun h => ?_) (fun h => ?_)
    · have hi : i < 60 := by have := of_decide_eq_true h; omega
      repeat first | (refine EffG.mk (And.intro ?_ ?_); focus ((repeat' (first | exact trivial | refine And.intro ?_ ?_)) <;> (first | omega | (simp only [hasTy, okP, lenD, D.ren, D.isCell, Option.getD, List.length_set, List.length_take, List.length_drop, List.length_append, List.length_replicate, List.length_map, List.length_cons, List.length_nil, Option.map] <;> omega) | with_reducible assumption | with_reducible rfl | decide); done)) | (refine And.intro ?_ ?_; focus ((repeat' (first | exact trivial | refine And.intro ?_ ?_)) <;> (first | omega | (simp only [hasTy, okP, lenD, D.ren, D.isCell, Option.getD, List.length_set, List.length_take, List.length_drop, List.length_append, List.length_replicate, List.length_map, List.length_cons, List.length_nil, Option.map] <;> omega) | with_reducible assumption | with_reducible rfl | decide); done)) | refine chkG (by kernel_rfl) ?_
      refine loopG Nat (fun k => [(2, .ptr 1 []), (3, .ptr 2 []), (7, .ptr 3 []), (8, .i64 i), (9, .i64 k)])
        (fun k => [(1, some ⟨t15, .node (List.replicate 15 (.u8s (List.replicate 16 0))), true⟩), (2, some ⟨t60, .node (ws.map .u8s), true⟩), (3, some ⟨t15, .node ((roK ws (roI ws i) i k).map .u8s), true⟩), (gid 1, some ⟨t256, .u8s boxL, false⟩)]) 4
        (fun k => k ≤ 4) (fun k => 4 - k) 0 [0, 1, 2, 3] (Nat.zero_le _) ?_ ?_
      · exact viewG rfl ⟨rfl, rfl, rfl, rfl, rfl, trivial⟩ ⟨⟨_, rfl, rfl, rfl, id⟩, ⟨_, rfl, rfl, (ren_rows _ _).symm, id⟩, ⟨_, rfl, rfl, (ren_rows _ _).symm, id⟩, ⟨_, rfl, rfl, rfl, id⟩, trivial⟩ rfl
      intro k hk4
      have hv := roK_rows ws hq i hi k
      repeat first | (refine EffG.mk (And.intro ?_ ?_); focus ((repeat' (first | exact trivial | refine And.intro ?_ ?_)) <;> (first | omega | (simp only [hasTy, okP, lenD, D.ren, D.isCell, Option.getD, List.length_set, List.length_take, List.length_drop, List.length_append, List.length_replicate, List.length_map, List.length_cons, List.length_nil, Option.map] <;> omega) | with_reducible assumption | with_reducible rfl | decide); done)) | (refine And.intro ?_ ?_; focus ((repeat' (first | exact trivial | refine And.intro ?_ ?_)) <;> (first | omega | (simp only [hasTy, okP, lenD, D.ren, D.isCell, Option.getD, List.length_set, List.length_take, List.length_drop, List.length_append, List.length_replicate, List.length_map, List.length_cons, List.length_nil, Option.map] <;> omega) | with_reducible assumption | with_reducible rfl | decide); done)) | refine chkG (by kernel_rfl) ?_
      refine Br.split (fun h => ?_) (fun h => ?_)
      · have hk4 : k < 4 := by have := of_decide_eq_true h; omega
        have q4 : Int.tmod (i : Int) 4 = ((i % 4 : Nat) : Int) := (Int.ofNat_tmod i 4).symm
        have q5 : Int.tdiv (i : Int) 4 = ((i / 4 : Nat) : Int) := (Int.ofNat_tdiv i 4).symm
        have q6 : 4 * ((i % 4 : Nat) : Int) + (k : Int) = ((4 * (i % 4) + k : Nat) : Int) := by omega
        have hr1 : ws.length = 60 := hr.1
        have hr2 : (ws.getD i []).length = 4 := hr.get hi
        have hv1 : (roK ws (roI ws i) i k).length = 15 := hv.1
        have hv2 : ((roK ws (roI ws i) i k).getD (i / 4) []).length = 16 := hv.get (by omega)
        repeat first | rw [q4] | rw [q5] | rw [q6] | rw [Int.toNat_natCast] | (refine EffG.mk (And.intro ?_ ?_); focus (rw [q5]; (repeat' (first | exact trivial | refine And.intro ?_ ?_)) <;> (first | omega | (simp only [hasTy, okP, lenD, D.ren, D.isCell, Option.getD, List.length_set, List.length_take, List.length_drop, List.length_append, List.length_replicate, List.length_map, List.length_cons, List.length_nil, Option.map] <;> omega) | with_reducible assumption | with_reducible rfl | decide); done)) | (refine EffG.mk (And.intro ?_ ?_); focus ((repeat' (first | exact trivial | refine And.intro ?_ ?_)) <;> (first | omega | (simp only [hasTy, okP, lenD, D.ren, D.isCell, Option.getD, List.length_set, List.length_take, List.length_drop, List.length_append, List.length_replicate, List.length_map, List.length_cons, List.length_nil, Option.map] <;> omega) | with_reducible assumption | with_reducible rfl | decide); done)) | (refine And.intro ?_ ?_; focus ((repeat' (first | exact trivial | refine And.intro ?_ ?_)) <;> (first | omega | (simp only [hasTy, okP, lenD, D.ren, D.isCell, Option.getD, List.length_set, List.length_take, List.length_drop, List.length_append, List.length_replicate, List.length_map, List.length_cons, List.length_nil, Option.map] <;> omega) | with_reducible assumption | with_reducible rfl | decide); done)) | refine chkG (by kernel_rfl) ?_
        refine loadG (.u8 ((ws.getD i []).getD k 0)) rfl rfl rfl rfl rfl (getP_row k (by omega)) (okP_row (by omega) (by omega)) ?_
        repeat first | rw [Int.toNat_natCast] | (refine EffG.mk (And.intro ?_ ?_); focus ((repeat' (first | exact trivial | refine And.intro ?_ ?_)) <;> (first | omega | (simp only [hasTy, okP, lenD, D.ren, D.isCell, Option.getD, List.length_set, List.length_take, List.length_drop, List.length_append, List.length_replicate, List.length_map, List.length_cons, List.length_nil, Option.map] <;> omega) | with_reducible assumption | with_reducible rfl | decide); done)) | (refine And.intro ?_ ?_; focus ((repeat' (first | exact trivial | refine And.intro ?_ ?_)) <;> (first | omega | (simp only [hasTy, okP, lenD, D.ren, D.isCell, Option.getD, List.length_set, List.length_take, List.length_drop, List.length_append, List.length_replicate, List.length_map, List.length_cons, List.length_nil, Option.map] <;> omega) | with_reducible assumption | with_reducible rfl | decide); done)) | refine chkG (by kernel_rfl) ?_
        refine storeG (.node ((roK ws (roI ws i) i (k + 1)).map .u8s)) rfl rfl rfl rfl rfl rfl rfl (getP_row (4 * (i % 4) + k) (by omega)) (setP_row (4 * (i % 4) + k) _ (by omega)) (okP_row (by omega) (by omega)) rfl ?_
        repeat first | (refine EffG.mk (And.intro ?_ ?_); focus ((repeat' (first | exact trivial | refine And.intro ?_ ?_)) <;> (first | omega | (simp only [hasTy, okP, lenD, D.ren, D.isCell, Option.getD, List.length_set, List.length_take, List.length_drop, List.length_append, List.length_replicate, List.length_map, List.length_cons, List.length_nil, Option.map] <;> omega) | with_reducible assumption | with_reducible rfl | decide); done)) | (refine And.intro ?_ ?_; focus ((repeat' (first | exact trivial | refine And.intro ?_ ?_)) <;> (first | omega | (simp only [hasTy, okP, lenD, D.ren, D.isCell, Option.getD, List.length_set, List.length_take, List.length_drop, List.length_append, List.length_replicate, List.length_map, List.length_cons, List.length_nil, Option.map] <;> omega) | with_reducible assumption | with_reducible rfl | decide); done)) | refine chkG (by kernel_rfl) ?_
        refine nextG (k + 1) [0, 1, 2, 3] ?_ ?_ ?_
        · omega
        · omega
        · exact viewG rfl ⟨rfl, rfl, rfl, rfl, rfl, trivial⟩ ⟨⟨_, rfl, rfl, rfl, id⟩, ⟨_, rfl, rfl, (ren_rows _ _).symm, id⟩, ⟨_, rfl, rfl, (ren_rows _ _).symm, id⟩, ⟨_, rfl, rfl, rfl, id⟩, trivial⟩ rfl
      · have hk4 : k = 4 := by have := of_decide_eq_false h; omega
        subst hk4
        repeat first | (refine EffG.mk (And.intro ?_ ?_); focus ((repeat' (first | exact trivial | refine And.intro ?_ ?_)) <;> (first | omega | (simp only [hasTy, okP, lenD, D.ren, D.isCell, Option.getD, List.length_set, List.length_take, List.length_drop, List.length_append, List.length_replicate, List.length_map, List.length_cons, List.length_nil, Option.map] <;> omega) | with_reducible assumption | with_reducible rfl | decide); done)) | (refine And.intro ?_ ?_; focus ((repeat' (first | exact trivial | refine And.intro ?_ ?_)) <;> (first | omega | (simp only [hasTy, okP, lenD, D.ren, D.isCell, Option.getD, List.length_set, List.length_take, List.length_drop, List.length_append, List.length_replicate, List.length_map, List.length_cons, List.length_nil, Option.map] <;> omega) | with_reducible assumption | with_reducible rfl | decide); done)) | refine chkG (by kernel_rfl) ?_
        refine nextG (i + 1) [0, 1, 2, 3] ?_ ?_ ?_
        · omega
        · omega
        · refine viewG rfl ⟨rfl, rfl, rfl, rfl, trivial⟩ ⟨⟨_, rfl, rfl, rfl, id⟩, ⟨_, rfl, rfl, (ren_rows _ _).symm, id⟩, ⟨_, rfl, rfl, ?_, id⟩, ⟨_, rfl, rfl, rfl, id⟩, trivial⟩ rfl
          rw [ren_rows, roI]
    · have hi : i = 60 := by have := of_decide_eq_false h; omega
      subst hi
      generalize roI ws 60 = o at hq ⊢
      repeat first | (refine EffG.mk (And.intro ?_ ?_); focus ((repeat' (first | exact trivial | refine And.intro ?_ ?_)) <;> (first | omega | (simp only [hasTy, okP, lenD, D.ren, D.isCell, Option.getD, List.length_set, List.length_take, List.length_drop, List.length_append, List.length_replicate, List.length_map, List.length_cons, List.length_nil, Option.map] <;> omega) | with_reducible assumption | with_reducible rfl | decide); done)) | (refine And.intro ?_ ?_; focus ((repeat' (first | exact trivial | refine And.intro ?_ ?_)) <;> (first | omega | (simp only [hasTy, okP, lenD, D.ren, D.isCell, Option.getD, List.length_set, List.length_take, List.length_drop, List.length_append, List.length_replicate, List.length_map, List.length_cons, List.length_nil, Option.map] <;> omega) | with_reducible assumption | with_reducible rfl | decide); done)) | refine chkG (by kernel_rfl) ?_
      refine EffG.mk (And.intro ⟨trivial, hq.ty⟩ ?_)
      repeat first | (refine EffG.mk (And.intro ?_ ?_); focus ((repeat' (first | exact trivial | refine And.intro ?_ ?_)) <;> (first | omega | (simp only [hasTy, okP, lenD, D.ren, D.isCell, Option.getD, List.length_set, List.length_take, List.length_drop, List.length_append, List.length_replicate, List.length_map, List.length_cons, List.length_nil, Option.map] <;> omega) | with_reducible assumption | with_reducible rfl | decide); done)) | (refine And.intro ?_ ?_; focus ((repeat' (first | exact trivial | refine And.intro ?_ ?_)) <;> (first | omega | (simp only [hasTy, okP, lenD, D.ren, D.isCell, Option.getD, List.length_set, List.length_take, List.length_drop, List.length_append, List.length_replicate, List.length_map, List.length_cons, List.length_nil, Option.map] <;> omega) | with_reducible assumption | with_reducible rfl | decide); done)) | refine chkG (by kernel_rfl) ?_
      refine retG [] ?_ rfl ⟨⟨_, rfl, rfl, rfl, id⟩, trivial⟩ rfl
      exact congrArg D.node (rens_u8s _ _).symm
end Go.Proofs.YtodkhgofmgaafaaDoor.Av

namespace Go.Proofs.YtodkhgofmgaafaaDoor.Av
open Go
set_option linter.all false
set_option maxRecDepth 3000

/-! what the round keys are, with no program in sight -/

def rndI : Nat → BitVec 8
  | 0 => 1
  | m + 1 => mulF (rndI m) 2

theorem schedI_round (key : List (BitVec 8)) : ∀ n, (schedI key n).2 = rndI ((n + 7) / 8)
  | 0 => rfl
  | n + 1 => by
    show (if n % 8 = 0 then mulF (schedI key n).2 2 else (schedI key n).2) = _
    rw [schedI_round key n]
    by_cases h : n % 8 = 0
    · rw [if_pos h, show (n + 1 + 7) / 8 = (n + 7) / 8 + 1 by omega]; rfl
    · rw [if_neg h, show (n + 1 + 7) / 8 = (n + 7) / 8 by omega]

theorem putI_low (f w : List (BitVec 8)) (n : Nat) (hf : 32 + 4 * n + 4 ≤ f.length) : ∀ k, k ≤ 4 → ∀ i, i < 32 + 4 * n → (putI f w n k).getD i 0 = f.getD i 0
  | 0, _, _, _ => rfl
  | k + 1, hk, i, hi => by
    rw [putI, getD_set (by rw [putI_length]; omega), if_neg (by omega)]
    exact putI_low f w n hf k (by omega) i hi

theorem putI_new (f w : List (BitVec 8)) (n : Nat) (hf : 32 + 4 * n + 4 ≤ f.length) : ∀ k, k ≤ 4 → ∀ j, j < k → (putI f w n k).getD (32 + 4 * n + j) 0 = f.getD (4 * n + j) 0 ^^^ w.getD j 0
  | 0, _, j, hj => by omega
  | k + 1, hk, j, hj => by
    rw [putI, getD_set (by rw [putI_length]; omega)]
    by_cases h : j = k
    · subst h
      rw [if_pos rfl, putI_low f w n hf j (by omega) (4 * n + j) (by omega)]
    · rw [if_neg (by omega)]
      exact putI_new f w n hf k (by omega) j (by omega)

section
variable (key : List (BitVec 8)) (hk : key.length = 32)
include hk
theorem sched_low (n : Nat) (hn : n < 52) (i : Nat) (hi : i < 32 + 4 * n) : (schedI key (n + 1)).1.getD i 0 = (schedI key n).1.getD i 0 :=
  putI_low _ _ _ (by rw [schedI_length key hk]; omega) 4 (Nat.le_refl _) i hi

theorem sched_stay (n i : Nat) (hi : i < 32 + 4 * n) : ∀ d, n + d ≤ 52 → (schedI key (n + d)).1.getD i 0 = (schedI key n).1.getD i 0
  | 0, _ => rfl
  | d + 1, h => by
    rw [← Nat.add_assoc, sched_low key hk (n + d) (by omega) i (by omega)]
    exact sched_stay n i hi d (by omega)

theorem sched_at (n i : Nat) (hn : n ≤ 52) (hi : i < 32 + 4 * n) : (schedI key 52).1.getD i 0 = (schedI key n).1.getD i 0 := by
  have := sched_stay key hk n i hi (52 - n) (by omega)
  rwa [show n + (52 - n) = 52 by omega] at this

theorem flat_key (i : Nat) (hi : i < 32) : (schedI key 52).1.getD i 0 = key.getD i 0 := by
  rw [sched_at key hk 0 i (by omega) (by omega)]
  show (List.take 0 (List.replicate 240 0) ++ List.take 32 (List.drop 0 key) ++ List.drop (0 + 32) (List.replicate 240 0)).getD i 0 = _
  rw [List.take_zero, List.nil_append, List.drop_zero, getD_append_left (by rw [List.length_take, hk]; omega), getD_take hi]

theorem flat_word (n j : Nat) (hn : n < 52) (hj : j < 4) : (schedI key 52).1.getD (32 + 4 * n + j) 0 = (schedI key 52).1.getD (4 * n + j) 0 ^^^ (wordF (schedI key n).1 (schedI key n).2 n).getD j 0 := by
  rw [sched_at key hk (n + 1) (32 + 4 * n + j) (by omega) (by omega), sched_at key hk n (4 * n + j) (by omega) (by omega)]
  exact putI_new _ _ _ (by rw [schedI_length key hk]; omega) 4 (Nat.le_refl _) j hj

theorem flat_w (n j : Nat) (hn : n < 52) (hj : j < 4) : (((schedI key n).1.drop (28 + 4 * n)).take 4).getD j 0 = (schedI key 52).1.getD (28 + 4 * n + j) 0 := by
  rw [getD_take hj, getD_drop, sched_at key hk n _ (by omega) (by omega)]
end

def pwF (m : Nat) : BitVec 8 := if (2 : BitVec 8) = 0 ∧ (m : Int) ≠ 0 then 0 else powF 2 (m : Int)
theorem rnd_pow : ∀ m, m < 7 → rndI m = pwF m := by decide +kernel

def want1 (A : List (BitVec 8)) (i : Nat) : BitVec 8 :=
  if i / 4 % 8 = 4 then A.getD (i - 32) 0 ^^^ sboxF (A.getD (i - 4) 0) else A.getD (i - 32) 0 ^^^ A.getD (i - 4) 0
def want0 (A : List (BitVec 8)) (i : Nat) : BitVec 8 := A.getD (i - 32) 0 ^^^ sboxF (A.getD (4 * (i / 4 - 1) + (i + 1) % 4) 0)
def wantF (A : List (BitVec 8)) (i : Nat) : BitVec 8 :=
  if i / 4 % 8 = 0 then (if i % 4 = 0 then want0 A i ^^^ pwF (i / 4 / 8 - 1) else want0 A i) else want1 A i

theorem keys_law (key : List (BitVec 8)) (hk : key.length = 32) (i : Nat) (h1 : 32 ≤ i) (h2 : i < 240) : (schedI key 52).1.getD i 0 = wantF (schedI key 52).1 i := by
  obtain ⟨n, j, hj, rfl⟩ : ∃ n j, j < 4 ∧ i = 32 + 4 * n + j := ⟨(i - 32) / 4, (i - 32) % 4, by omega, by omega⟩
  have hn : n < 52 := by omega
  have w0 := flat_w key hk n 0 hn (by omega)
  have w1 := flat_w key hk n 1 hn (by omega)
  have w2 := flat_w key hk n 2 hn (by omega)
  have w3 := flat_w key hk n 3 hn (by omega)
  rw [flat_word key hk n j hn hj, schedI_round]
  have e1 : (32 + 4 * n + j) / 4 = 8 + n := by omega
  have e2 : 32 + 4 * n + j - 32 = 4 * n + j := by omega
  have e3 : (8 + n) % 8 = n % 8 := by omega
  have e4 : 32 + 4 * n + j - 4 = 28 + 4 * n + j := by omega
  have e5 : (32 + 4 * n + j) % 4 = j := by omega
  have e6 : (8 + n) / 8 - 1 = n / 8 := by omega
  have e7 : 4 * (8 + n - 1) + (32 + 4 * n + j + 1) % 4 = 28 + 4 * n + (j + 1) % 4 := by omega
  have e8 : n % 8 = 0 → (n + 7) / 8 = n / 8 := by omega
  simp only [wantF, want0, want1, e1, e2, e3, e4, e5, e6, e7]
  unfold wordF
  simp only [w0, w1, w2, w3]
  by_cases h0 : n % 8 = 0
  · rw [if_pos h0, if_pos h0, e8 h0, rnd_pow (n / 8) (by omega)]
    rcases (by omega : j = 0 ∨ j = 1 ∨ j = 2 ∨ j = 3) with rfl | rfl | rfl | rfl
    · rw [if_pos rfl]
      generalize (schedI key 52).1 = fl
      exact (BitVec.xor_assoc _ _ _).symm
    all_goals (generalize (schedI key 52).1 = fl; rfl)
  · rw [if_neg h0, if_neg h0]
    by_cases h4 : n % 8 = 4
    · rw [if_pos h4, if_pos h4]
      rcases (by omega : j = 0 ∨ j = 1 ∨ j = 2 ∨ j = 3) with rfl | rfl | rfl | rfl
      all_goals (generalize (schedI key 52).1 = fl; rfl)
    · rw [if_neg h4, if_neg h4, flat_w key hk n j hn hj]

theorem outK_at (fl : List (BitVec 8)) : ∀ n, n ≤ 15 → ∀ j, j < n → (outK fl n).getD j [] = (fl.drop (16 * j)).take 16
  | 0, _, j, hj => by omega
  | n + 1, hn, j, hj => by
    rw [outK, getD_set (by rw [outK_length]; omega)]
    by_cases h : j = n
    · rw [if_pos h, h]
    · rw [if_neg h]
      exact outK_at fl n (by omega) j (by omega)

theorem keys_at (key : List (BitVec 8)) (i : Nat) (h : i < 240) : ((schedF key).getD (i / 16) []).getD (i % 16) 0 = (schedI key 52).1.getD i 0 := by
  unfold schedF
  rw [outK_at _ 15 (Nat.le_refl _) (i / 16) (by omega), getD_take (by omega), getD_drop, show 16 * (i / 16) + i % 16 = i by omega]

def allI (ks : List (List (BitVec 8))) : Nat → List (BitVec 8)
  | 0 => List.replicate 240 0
  | n + 1 => (allI ks n).set n ((ks.getD (n / 16) []).getD (n % 16) 0)
theorem allI_length (ks : List (List (BitVec 8))) : ∀ n, (allI ks n).length = 240
  | 0 => List.length_replicate ..
  | n + 1 => by rw [allI, List.length_set, allI_length ks n]
theorem allI_at (ks : List (List (BitVec 8))) : ∀ n, n ≤ 240 → ∀ i, i < n → (allI ks n).getD i 0 = (ks.getD (i / 16) []).getD (i % 16) 0
  | 0, _, i, hi => by omega
  | n + 1, hn, i, hi => by
    rw [allI, getD_set (by rw [allI_length]; omega)]
    by_cases h : i = n
    · rw [if_pos h, h]
    · rw [if_neg h]
      exact allI_at ks n (by omega) i (by omega)
theorem ext_getD {l r : List (BitVec 8)} (h : l.length = r.length) (hi : ∀ i, i < l.length → l.getD i 0 = r.getD i 0) : l = r := by
  refine List.ext_getElem h fun i h1 h2 => ?_
  have := hi i h1
  rwa [List.getD_eq_getElem?_getD, List.getD_eq_getElem?_getD, List.getElem?_eq_getElem h1, List.getElem?_eq_getElem h2] at this
theorem all_flat (key : List (BitVec 8)) (hk : key.length = 32) : allI (schedF key) 240 = (schedI key 52).1 := by
  refine ext_getD (by rw [allI_length, schedI_length key hk]) fun i hi => ?_
  rw [allI_length] at hi
  rw [allI_at _ 240 (Nat.le_refl _) i hi, keys_at key i hi]
end Go.Proofs.YtodkhgofmgaafaaDoor.Av

namespace Go.Proofs.YtodkhgofmgaafaaDoor.Av
open Go
set_option linter.all false
set_option maxRecDepth 3000

/-! the document's round keys are the program's: with no program in sight -/

theorem rndJ_eq : ∀ m, rndJ m = rndI m
  | 0 => rfl
  | m + 1 => by rw [rndJ, rndI, rndJ_eq m]

theorem rkI_row {ws : List (List (BitVec 8))} (h : Rows 60 4 ws) (i : Nat) (h8 : 8 ≤ i) (hi : i < 60) (t : List (BitVec 8)) : ∀ k, k ≤ 4 →
    (∀ j, j ≠ i → (rkI ws i t k).getD j [] = ws.getD j []) ∧ ∀ m, m < k → ((rkI ws i t k).getD i []).getD m 0 = (ws.getD (i - 8) []).getD m 0 ^^^ t.getD m 0
  | 0, _ => ⟨fun _ _ => rfl, fun m hm => by omega⟩
  | k + 1, hk => by
    obtain ⟨h1, h2⟩ := rkI_row h i h8 hi t k (by omega)
    have hr := rkI_rows h i hi t k
    have hl := hr.1
    have hl2 := hr.get hi
    refine ⟨fun j hj => ?_, fun m hm => ?_⟩
    · rw [rkI, getD_set (by omega), if_neg hj, h1 j hj]
    · rw [rkI, getD_set (by omega), if_pos rfl, getD_set (by omega)]
      by_cases e : m = k
      · subst e
        rw [if_pos rfl, h1 (i - 8) (by omega)]
      · rw [if_neg e]
        exact h2 m (by omega)

theorem rwI_step (key : List (BitVec 8)) (i j : Nat) (hi : i < 60) (hj : j ≠ i) : (rwI key (i + 1)).getD j [] = (rwI key i).getD j [] := by
  have hr := rwI_rows key i (by omega)
  have hl := hr.1
  rw [rwI]
  split
  · rw [getD_set (by omega), if_neg hj]
  · exact (rkI_row hr i (by omega) hi _ 4 (Nat.le_refl _)).1 j hj
theorem rwI_stay (key : List (BitVec 8)) (i j : Nat) (hj : j < i) : ∀ d, i + d ≤ 60 → (rwI key (i + d)).getD j [] = (rwI key i).getD j []
  | 0, _ => rfl
  | d + 1, h => by
    rw [← Nat.add_assoc, rwI_step key (i + d) j (by omega) (by omega)]
    exact rwI_stay key i j hj d (by omega)
theorem rwI_at (key : List (BitVec 8)) (i j : Nat) (hj : j < i) (hi : i ≤ 60) : (rwI key 60).getD j [] = (rwI key i).getD j [] := by
  have := rwI_stay key i j hj (60 - i) (by omega)
  rwa [show i + (60 - i) = 60 by omega] at this

theorem rw_flat (key : List (BitVec 8)) (hk : key.length = 32) : ∀ i, i < 60 → ∀ k, k < 4 → ((rwI key 60).getD i []).getD k 0 = (schedI key 52).1.getD (4 * i + k) 0 := by
  intro i
  induction i using Nat.strongRecOn with
  | _ i ih =>
    intro hi k hk4
    have hr := rwI_rows key i (by omega)
    have hl := hr.1
    rw [rwI_at key (i + 1) i (by omega) (by omega), rwI]
    by_cases h8 : i < 8
    · rw [if_pos h8, getD_set (by omega), if_pos rfl, flat_key key hk (4 * i + k) (by omega)]
      rcases (by omega : k = 0 ∨ k = 1 ∨ k = 2 ∨ k = 3) with rfl | rfl | rfl | rfl <;> rfl
    · rw [if_neg h8, (rkI_row hr i (by omega) hi _ 4 (Nat.le_refl _)).2 k hk4, ← rwI_at key i (i - 8) (by omega) (by omega), ih (i - 8) (by omega) (by omega) k hk4]
      obtain ⟨n, rfl⟩ : ∃ n, i = 8 + n := ⟨i - 8, by omega⟩
      have hn : n < 52 := by omega
      have e1 : 4 * (8 + n) + k = 32 + 4 * n + k := by omega
      have e2 : 4 * (8 + n - 8) + k = 4 * n + k := by omega
      rw [e1, e2, flat_word key hk n k hn hk4]
      have ht : ∀ m, m < 4 → ((rwI key (8 + n)).getD (8 + n - 1) []).getD m 0 = (schedI key 52).1.getD (28 + 4 * n + m) 0 := fun m hm => by
        rw [← rwI_at key (8 + n) (8 + n - 1) (by omega) (by omega), ih (8 + n - 1) (by omega) (by omega) m hm]
        congr 1
        omega
      have w0 := (flat_w key hk n 0 hn (by omega)).trans (ht 0 (by omega)).symm
      have w1 := (flat_w key hk n 1 hn (by omega)).trans (ht 1 (by omega)).symm
      have w2 := (flat_w key hk n 2 hn (by omega)).trans (ht 2 (by omega)).symm
      have w3 := (flat_w key hk n 3 hn (by omega)).trans (ht 3 (by omega)).symm
      have wk := (flat_w key hk n k hn hk4).trans (ht k hk4).symm
      congr 1
      rw [schedI_round]
      unfold rtF wordF
      simp only [w0, w1, w2, w3]
      have e3 : (8 + n) % 8 = n % 8 := by omega
      have e4 : n % 8 = 0 → (n + 7) / 8 = (8 + n) / 8 - 1 := by omega
      rw [e3]
      by_cases h0 : n % 8 = 0
      · rw [if_pos h0, if_pos h0, e4 h0, rpow_rnd _ (by omega), rndJ_eq]
      · rw [if_neg h0, if_neg h0]
        by_cases h4 : n % 8 = 4
        · rw [if_pos h4, if_pos h4]
        · rw [if_neg h4, if_neg h4, wk]

theorem roK_row {o : List (List (BitVec 8))} (ws : List (List (BitVec 8))) (h : Rows 15 16 o) (i : Nat) (hi : i < 60) : ∀ k, k ≤ 4 → ∀ j m, j < 15 → m < 16 →
    ((roK ws o i k).getD j []).getD m 0 = if 4 * i ≤ 16 * j + m ∧ 16 * j + m < 4 * i + k then (ws.getD i []).getD (m % 4) 0 else (o.getD j []).getD m 0
  | 0, _, j, m, _, _ => by rw [if_neg (by omega)]; rfl
  | k + 1, hk, j, m, hj, hm => by
    have hr := roK_rows ws h i hi k
    have hl := hr.1
    have hl2 : ((roK ws o i k).getD (i / 4) []).length = 16 := hr.get (by omega)
    have ih := roK_row ws h i hi k (by omega) j m hj hm
    rw [roK, getD_set (by omega)]
    by_cases hji : j = i / 4
    · rw [if_pos hji, getD_set (by omega)]
      by_cases hmk : m = 4 * (i % 4) + k
      · rw [if_pos hmk, if_pos (by omega), show m % 4 = k by omega]
      · rw [if_neg hmk, ← hji, ih]
        by_cases hc : 4 * i ≤ 16 * j + m ∧ 16 * j + m < 4 * i + k
        · rw [if_pos hc, if_pos (by omega)]
        · rw [if_neg hc, if_neg (by omega)]
    · rw [if_neg hji, ih]
      by_cases hc : 4 * i ≤ 16 * j + m ∧ 16 * j + m < 4 * i + k
      · rw [if_pos hc, if_pos (by omega)]
      · rw [if_neg hc, if_neg (by omega)]

theorem roI_row (ws : List (List (BitVec 8))) : ∀ i, i ≤ 60 → ∀ j m, j < 15 → m < 16 → 16 * j + m < 4 * i → ((roI ws i).getD j []).getD m 0 = (ws.getD ((16 * j + m) / 4) []).getD (m % 4) 0
  | 0, _, j, m, _, _, h => by omega
  | i + 1, hi, j, m, hj, hm, h => by
    rw [roI, roK_row ws (roI_rows ws i (by omega)) i (by omega) 4 (Nat.le_refl _) j m hj hm]
    by_cases hc : 4 * i ≤ 16 * j + m ∧ 16 * j + m < 4 * i + 4
    · rw [if_pos hc, show (16 * j + m) / 4 = i by omega]
    · rw [if_neg hc]
      exact roI_row ws i (by omega) j m hj hm (by omega)

theorem rows_ext {n m : Nat} {a b : List (List (BitVec 8))} (ha : Rows n m a) (hb : Rows n m b) (h : ∀ i, i < n → ∀ k, k < m → (a.getD i []).getD k 0 = (b.getD i []).getD k 0) : a = b := by
  refine List.ext_getElem (ha.1.trans hb.1.symm) fun i h1 h2 => ?_
  have hi : i < n := by rw [← ha.1]; exact h1
  have e1 : a[i] = a.getD i [] := by rw [List.getD_eq_getElem?_getD, List.getElem?_eq_getElem h1]; rfl
  have e2 : b[i] = b.getD i [] := by rw [List.getD_eq_getElem?_getD, List.getElem?_eq_getElem h2]; rfl
  rw [e1, e2]
  refine ext_getD ((ha.get hi).trans (hb.get hi).symm) fun k hk => h i hi k (by rw [← ha.get hi]; exact hk)

theorem rschF_rows (key : List (BitVec 8)) : Rows 15 16 (rschF key) := by
  unfold rschF
  exact roI_rows (rwI key 60) 60 (Nat.le_refl 60)
theorem rschF_at (key : List (BitVec 8)) (j m : Nat) (hj : j < 15) (hm : m < 16) : ((rschF key).getD j []).getD m 0 = ((rwI key 60).getD ((16 * j + m) / 4) []).getD (m % 4) 0 := by
  unfold rschF
  exact roI_row (rwI key 60) 60 (Nat.le_refl 60) j m hj hm (by omega)

theorem rsch_eq (key : List (BitVec 8)) (hk : key.length = 32) : rschF key = schedF key := by
  have h2 : Rows 15 16 (schedF key) := ⟨schedF_length key, schedF_lens key hk⟩
  refine rows_ext (rschF_rows key) h2 fun j hj m hm => ?_
  have e := keys_at key (16 * j + m) (by omega)
  have e1 : (16 * j + m) / 16 = j := by omega
  have e2 : (16 * j + m) % 16 = m := by omega
  have e3 : 4 * ((16 * j + m) / 4) + m % 4 = 16 * j + m := by omega
  have e4 := rw_flat key hk ((16 * j + m) / 4) (by omega) (m % 4) (by omega)
  rw [e3] at e4
  rw [e1, e2] at e
  exact (rschF_at key j m hj hm).trans (e4.trans e.symm)
end Go.Proofs.YtodkhgofmgaafaaDoor.Av

namespace Go.Proofs.YtodkhgofmgaafaaDoor.Av
open Go
set_option linter.all false
set_option maxRecDepth 3000

/-! the document's way to encrypt -/
/-- bytes laid one by one: at the places ix 0, ix 1, .. the values v 0, v 1, .. -/
def setsI (ix : Nat → Nat) (v : Nat → BitVec 8) (s : List (BitVec 8)) : Nat → List (BitVec 8)
  | 0 => s
  | n + 1 => (setsI ix v s n).set (ix n) (v n)
theorem setsI_length (ix : Nat → Nat) (v : Nat → BitVec 8) (s : List (BitVec 8)) : ∀ n, (setsI ix v s n).length = s.length
  | 0 => rfl
  | n + 1 => by rw [setsI, List.length_set, setsI_length ix v s n]

def rsubV (s : List (BitVec 8)) (n : Nat) : BitVec 8 := sboxF (s.getD (4 * ((n / 4 + n % 4) % 4) + n % 4) 0)
def rmixV (t : List (BitVec 8)) (n : Nat) : BitVec 8 :=
  shiftF (t.getD (4 * (n / 4) + n % 4) 0) ^^^ shiftF (t.getD (4 * (n / 4) + (n % 4 + 1) % 4) 0) ^^^ t.getD (4 * (n / 4) + (n % 4 + 1) % 4) 0 ^^^ t.getD (4 * (n / 4) + (n % 4 + 2) % 4) 0 ^^^ t.getD (4 * (n / 4) + (n % 4 + 3) % 4) 0
def rsubF (s : List (BitVec 8)) : List (BitVec 8) := setsI id (rsubV s) (List.replicate 16 0) 16
def rmixF (t : List (BitVec 8)) : List (BitVec 8) := setsI id (rmixV t) t 16
def rencI (ks : List (List (BitVec 8))) (b : List (BitVec 8)) : Nat → List (BitVec 8)
  | 0 => xorF b (ks.getD 0 [])
  | n + 1 => xorF (if n + 1 < 14 then rmixF (rsubF (rencI ks b n)) else rsubF (rencI ks b n)) (ks.getD (n + 1) [])
theorem rsubF_length (s : List (BitVec 8)) : (rsubF s).length = 16 := setsI_length _ _ _ 16
theorem rmixF_length (s : List (BitVec 8)) : (rmixF s).length = s.length := setsI_length _ _ _ 16
theorem rencI_length (ks : List (List (BitVec 8))) (b : List (BitVec 8)) (hb : b.length = 16) : ∀ n, (rencI ks b n).length = 16
  | 0 => by rw [rencI, xorF_length, hb]
  | n + 1 => by
    rw [rencI, xorF_length]
    split
    · rw [rmixF_length, rsubF_length]
    · rw [rsubF_length]

set_option maxHeartbeats 4000000 in
theorem renc_ac (ks : List (List (BitVec 8))) (b : List (BitVec 8)) (hb : b.length = 16) (hr : Rows 15 16 ks) : AC Tryd.prog 128 [.node (ks.map .u8s), .u8s b] 0 gB ⟨.u8s (rencI ks b 14), [], []⟩ := by
  have h1 : ks.length = 15 := hr.1
  have hm : (ks.map D.u8s).length = 15 := by rw [List.length_map, h1]
  have hx := xorF_length b (ks.getD 0 [])
  rw [hb] at hx
  refine ac_of tab mix Tryd.func128 rfl (by kernel_rfl) (by kernel_rfl) (by kernel_rfl) ⟨[22], []⟩ ?_
  refine EffG.mk (And.intro hr.ty ?_)
  repeat first | (rw [nthD_u8s (l := ks)]; rotate_left; omega) | (refine EffG.mk (And.intro ?_ ?_); focus ((repeat' (first | exact trivial | refine And.intro ?_ ?_)) <;> (first | omega | (simp only [hasTy, okP, lenD, D.ren, D.isCell, Option.getD, List.length_set, List.length_take, List.length_drop, List.length_append, List.length_replicate, List.length_map, List.length_cons, List.length_nil, Option.map] <;> omega) | with_reducible assumption | with_reducible rfl | decide); done)) | (refine And.intro ?_ ?_; focus ((repeat' (first | exact trivial | refine And.intro ?_ ?_)) <;> (first | omega | (simp only [hasTy, okP, lenD, D.ren, D.isCell, Option.getD, List.length_set, List.length_take, List.length_drop, List.length_append, List.length_replicate, List.length_map, List.length_cons, List.length_nil, Option.map] <;> omega) | with_reducible assumption | with_reducible rfl | decide); done)) | refine chkG (by kernel_rfl) ?_
  refine callG (with_ac b (ks.getD 0 []) hb (hr.get (by omega))) [] rfl rfl trivial rfl rfl ?_
  repeat first | (refine EffG.mk (And.intro ?_ ?_); focus ((repeat' (first | exact trivial | refine And.intro ?_ ?_)) <;> (first | omega | (simp only [hasTy, okP, lenD, D.ren, D.isCell, Option.getD, List.length_set, List.length_take, List.length_drop, List.length_append, List.length_replicate, List.length_map, List.length_cons, List.length_nil, Option.map] <;> omega) | with_reducible assumption | with_reducible rfl | decide); done)) | (refine And.intro ?_ ?_; focus ((repeat' (first | exact trivial | refine And.intro ?_ ?_)) <;> (first | omega | (simp only [hasTy, okP, lenD, D.ren, D.isCell, Option.getD, List.length_set, List.length_take, List.length_drop, List.length_append, List.length_replicate, List.length_map, List.length_cons, List.length_nil, Option.map] <;> omega) | with_reducible assumption | with_reducible rfl | decide); done)) | refine chkG (by kernel_rfl) ?_
  refine loopG Nat (fun k => [(2, .ptr 0 []), (4, .ptr 2 []), (5, .ptr 3 []), (6, .i64 (k + 1 : Nat))])
    (fun k => [(0, some ⟨t15, .node (ks.map .u8s), true⟩), (2, some ⟨t16, .u8s (List.replicate 16 0), true⟩), (3, some ⟨t16, .u8s (rencI ks b k), true⟩), (gid 1, some ⟨t256, .u8s boxL, false⟩)]) 4 (fun k => k ≤ 14) (fun k => 14 - k) 0 [0, 1, 2, 3] (Nat.zero_le _) ?_ ?_
  · exact viewG rfl ⟨rfl, rfl, rfl, rfl, trivial⟩ ⟨⟨_, rfl, rfl, (ren_rows _ _).symm, id⟩, ⟨_, rfl, rfl, rfl, id⟩, ⟨_, rfl, rfl, rfl, id⟩, ⟨_, rfl, rfl, rfl, id⟩, trivial⟩ rfl
  intro k hk14
  have hl := rencI_length ks b hb k
  repeat first | (refine EffG.mk (And.intro ?_ ?_); focus ((repeat' (first | exact trivial | refine And.intro ?_ ?_)) <;> (first | omega | (simp only [hasTy, okP, lenD, D.ren, D.isCell, Option.getD, List.length_set, List.length_take, List.length_drop, List.length_append, List.length_replicate, List.length_map, List.length_cons, List.length_nil, Option.map] <;> omega) | with_reducible assumption | with_reducible rfl | decide); done)) | (refine And.intro ?_ ?_; focus ((repeat' (first | exact trivial | refine And.intro ?_ ?_)) <;> (first | omega | (simp only [hasTy, okP, lenD, D.ren, D.isCell, Option.getD, List.length_set, List.length_take, List.length_drop, List.length_append, List.length_replicate, List.length_map, List.length_cons, List.length_nil, Option.map] <;> omega) | with_reducible assumption | with_reducible rfl | decide); done)) | refine chkG (by kernel_rfl) ?_
  refine Br.split (fun h => ?_) (fun h => ?_)
  · have hk14 : k < 14 := by have := of_decide_eq_true h; omega
    have hc : rencI ks b (k + 1) = xorF (if k + 1 < 14 then rmixF (rsubF (rencI ks b k)) else rsubF (rencI ks b k)) (ks.getD (k + 1) []) := rfl
    generalize rencI ks b k = s at hl hc ⊢
    repeat first | (refine EffG.mk (And.intro ?_ ?_); focus ((repeat' (first | exact trivial | refine And.intro ?_ ?_)) <;> (first | omega | (simp only [hasTy, okP, lenD, D.ren, D.isCell, Option.getD, List.length_set, List.length_take, List.length_drop, List.length_append, List.length_replicate, List.length_map, List.length_cons, List.length_nil, Option.map] <;> omega) | with_reducible assumption | with_reducible rfl | decide); done)) | (refine And.intro ?_ ?_; focus ((repeat' (first | exact trivial | refine And.intro ?_ ?_)) <;> (first | omega | (simp only [hasTy, okP, lenD, D.ren, D.isCell, Option.getD, List.length_set, List.length_take, List.length_drop, List.length_append, List.length_replicate, List.length_map, List.length_cons, List.length_nil, Option.map] <;> omega) | with_reducible assumption | with_reducible rfl | decide); done)) | refine chkG (by kernel_rfl) ?_
    refine loopG Nat (fun c => [(2, .ptr 0 []), (4, .ptr 2 []), (5, .ptr 3 []), (6, .i64 (k + 1 : Nat)), (7, .ptr 4 []), (8, .i64 c)])
      (fun c => [(0, some ⟨t15, .node (ks.map .u8s), true⟩), (2, some ⟨t16, .u8s (List.replicate 16 0), true⟩), (3, some ⟨t16, .u8s s, true⟩), (4, some ⟨t16, .u8s (setsI id (rsubV s) (List.replicate 16 0) (4 * c)), true⟩), (gid 1, some ⟨t256, .u8s boxL, false⟩)]) 5 (fun c => c ≤ 4) (fun c => 4 - c) 0 [0, 1, 2, 3, 4] (Nat.zero_le _) ?_ ?_
    · exact viewG rfl ⟨rfl, rfl, rfl, rfl, rfl, rfl, trivial⟩ ⟨⟨_, rfl, rfl, (ren_rows _ _).symm, id⟩, ⟨_, rfl, rfl, rfl, id⟩, ⟨_, rfl, rfl, rfl, id⟩, ⟨_, rfl, rfl, rfl, id⟩, ⟨_, rfl, rfl, rfl, id⟩, trivial⟩ rfl
    intro c hc4
    repeat first | (refine EffG.mk (And.intro ?_ ?_); focus ((repeat' (first | exact trivial | refine And.intro ?_ ?_)) <;> (first | omega | (simp only [hasTy, okP, lenD, D.ren, D.isCell, Option.getD, List.length_set, List.length_take, List.length_drop, List.length_append, List.length_replicate, List.length_map, List.length_cons, List.length_nil, Option.map] <;> omega) | with_reducible assumption | with_reducible rfl | decide); done)) | (refine And.intro ?_ ?_; focus ((repeat' (first | exact trivial | refine And.intro ?_ ?_)) <;> (first | omega | (simp only [hasTy, okP, lenD, D.ren, D.isCell, Option.getD, List.length_set, List.length_take, List.length_drop, List.length_append, List.length_replicate, List.length_map, List.length_cons, List.length_nil, Option.map] <;> omega) | with_reducible assumption | with_reducible rfl | decide); done)) | refine chkG (by kernel_rfl) ?_
    refine Br.split (fun h => ?_) (fun h => ?_)
    · have hc4 : c < 4 := by have := of_decide_eq_true h; omega
      repeat first | (refine EffG.mk (And.intro ?_ ?_); focus ((repeat' (first | exact trivial | refine And.intro ?_ ?_)) <;> (first | omega | (simp only [hasTy, okP, lenD, D.ren, D.isCell, Option.getD, List.length_set, List.length_take, List.length_drop, List.length_append, List.length_replicate, List.length_map, List.length_cons, List.length_nil, Option.map] <;> omega) | with_reducible assumption | with_reducible rfl | decide); done)) | (refine And.intro ?_ ?_; focus ((repeat' (first | exact trivial | refine And.intro ?_ ?_)) <;> (first | omega | (simp only [hasTy, okP, lenD, D.ren, D.isCell, Option.getD, List.length_set, List.length_take, List.length_drop, List.length_append, List.length_replicate, List.length_map, List.length_cons, List.length_nil, Option.map] <;> omega) | with_reducible assumption | with_reducible rfl | decide); done)) | refine chkG (by kernel_rfl) ?_
      refine loopG Nat (fun r => [(2, .ptr 0 []), (4, .ptr 2 []), (5, .ptr 3 []), (6, .i64 (k + 1 : Nat)), (7, .ptr 4 []), (8, .i64 c), (9, .i64 r)])
        (fun r => [(0, some ⟨t15, .node (ks.map .u8s), true⟩), (2, some ⟨t16, .u8s (List.replicate 16 0), true⟩), (3, some ⟨t16, .u8s s, true⟩), (4, some ⟨t16, .u8s (setsI id (rsubV s) (List.replicate 16 0) (4 * c + r)), true⟩), (gid 1, some ⟨t256, .u8s boxL, false⟩)]) 5 (fun r => r ≤ 4) (fun r => 4 - r) 0 [0, 1, 2, 3, 4] (Nat.zero_le _) ?_ ?_
      · exact viewG rfl ⟨rfl, rfl, rfl, rfl, rfl, rfl, rfl, trivial⟩ ⟨⟨_, rfl, rfl, (ren_rows _ _).symm, id⟩, ⟨_, rfl, rfl, rfl, id⟩, ⟨_, rfl, rfl, rfl, id⟩, ⟨_, rfl, rfl, rfl, id⟩, ⟨_, rfl, rfl, rfl, id⟩, trivial⟩ rfl
      intro r hr4
      have hq := setsI_length id (rsubV s) (List.replicate 16 0) (4 * c + r)
      rw [List.length_replicate] at hq
      repeat first | (refine EffG.mk (And.intro ?_ ?_); focus ((repeat' (first | exact trivial | refine And.intro ?_ ?_)) <;> (first | omega | (simp only [hasTy, okP, lenD, D.ren, D.isCell, Option.getD, List.length_set, List.length_take, List.length_drop, List.length_append, List.length_replicate, List.length_map, List.length_cons, List.length_nil, Option.map] <;> omega) | with_reducible assumption | with_reducible rfl | decide); done)) | (refine And.intro ?_ ?_; focus ((repeat' (first | exact trivial | refine And.intro ?_ ?_)) <;> (first | omega | (simp only [hasTy, okP, lenD, D.ren, D.isCell, Option.getD, List.length_set, List.length_take, List.length_drop, List.length_append, List.length_replicate, List.length_map, List.length_cons, List.length_nil, Option.map] <;> omega) | with_reducible assumption | with_reducible rfl | decide); done)) | refine chkG (by kernel_rfl) ?_
      refine Br.split (fun h => ?_) (fun h => ?_)
      · have hr4 : r < 4 := by have := of_decide_eq_true h; omega
        have e1 : 4 * (c : Int) + (r : Int) = ((4 * c + r : Nat) : Int) := by omega
        have e2 : Int.tmod ((c : Int) + (r : Int)) 4 = (((c + r) % 4 : Nat) : Int) := Int.ofNat_tmod (c + r) 4
        have e3 : 4 * (((c + r) % 4 : Nat) : Int) + (r : Int) = ((4 * ((c + r) % 4) + r : Nat) : Int) := by omega
        repeat first | rw [e1] | rw [e2] | rw [e3] | rw [Int.toNat_natCast] | refine EffG.mk (And.intro (gx1 _) ?_) | refine EffG.mk (And.intro (gx2 _) ?_) | (refine EffG.mk (And.intro ?_ ?_); focus ((repeat' (first | exact trivial | refine And.intro ?_ ?_)) <;> (first | omega | (simp only [hasTy, okP, lenD, D.ren, D.isCell, Option.getD, List.length_set, List.length_take, List.length_drop, List.length_append, List.length_replicate, List.length_map, List.length_cons, List.length_nil, Option.map] <;> omega) | with_reducible assumption | with_reducible rfl | decide); done)) | (refine And.intro ?_ ?_; focus ((repeat' (first | exact trivial | refine And.intro ?_ ?_)) <;> (first | omega | (simp only [hasTy, okP, lenD, D.ren, D.isCell, Option.getD, List.length_set, List.length_take, List.length_drop, List.length_append, List.length_replicate, List.length_map, List.length_cons, List.length_nil, Option.map] <;> omega) | with_reducible assumption | with_reducible rfl | decide); done)) | refine chkG (by kernel_rfl) ?_
        refine nextG (r + 1) [0, 1, 2, 3, 4] ?_ ?_ ?_
        · omega
        · omega
        · refine viewG rfl ⟨rfl, rfl, rfl, rfl, rfl, rfl, rfl, trivial⟩ ⟨⟨_, rfl, rfl, (ren_rows _ _).symm, id⟩, ⟨_, rfl, rfl, rfl, id⟩, ⟨_, rfl, rfl, rfl, id⟩, ⟨_, rfl, rfl, congrArg D.u8s ?_, id⟩, ⟨_, rfl, rfl, rfl, id⟩, trivial⟩ rfl
          rw [← Nat.add_assoc, setsI, rsubV, show (4 * c + r) / 4 = c by omega, show (4 * c + r) % 4 = r by omega]
          rfl
      · have hr4 : r = 4 := by have := of_decide_eq_false h; omega
        subst hr4
        repeat first | (refine EffG.mk (And.intro ?_ ?_); focus ((repeat' (first | exact trivial | refine And.intro ?_ ?_)) <;> (first | omega | (simp only [hasTy, okP, lenD, D.ren, D.isCell, Option.getD, List.length_set, List.length_take, List.length_drop, List.length_append, List.length_replicate, List.length_map, List.length_cons, List.length_nil, Option.map] <;> omega) | with_reducible assumption | with_reducible rfl | decide); done)) | (refine And.intro ?_ ?_; focus ((repeat' (first | exact trivial | refine And.intro ?_ ?_)) <;> (first | omega | (simp only [hasTy, okP, lenD, D.ren, D.isCell, Option.getD, List.length_set, List.length_take, List.length_drop, List.length_append, List.length_replicate, List.length_map, List.length_cons, List.length_nil, Option.map] <;> omega) | with_reducible assumption | with_reducible rfl | decide); done)) | refine chkG (by kernel_rfl) ?_
        refine nextG (c + 1) [0, 1, 2, 3, 4] ?_ ?_ ?_
        · omega
        · omega
        · exact viewG rfl ⟨rfl, rfl, rfl, rfl, rfl, rfl, trivial⟩ ⟨⟨_, rfl, rfl, (ren_rows _ _).symm, id⟩, ⟨_, rfl, rfl, rfl, id⟩, ⟨_, rfl, rfl, rfl, id⟩, ⟨_, rfl, rfl, rfl, id⟩, ⟨_, rfl, rfl, rfl, id⟩, trivial⟩ rfl
    · have hc4 : c = 4 := by have := of_decide_eq_false h; omega
      subst hc4
      have ht := rsubF_length s
      have hu := rmixF_length (rsubF s)
      rw [ht] at hu
      have e0 : setsI id (rsubV s) (List.replicate 16 0) (4 * 4) = rsubF s := rfl
      rw [e0]
      generalize rsubF s = t at ht hc hu ⊢
      repeat first | (refine EffG.mk (And.intro ?_ ?_); focus ((repeat' (first | exact trivial | refine And.intro ?_ ?_)) <;> (first | omega | (simp only [hasTy, okP, lenD, D.ren, D.isCell, Option.getD, List.length_set, List.length_take, List.length_drop, List.length_append, List.length_replicate, List.length_map, List.length_cons, List.length_nil, Option.map] <;> omega) | with_reducible assumption | with_reducible rfl | decide); done)) | (refine And.intro ?_ ?_; focus ((repeat' (first | exact trivial | refine And.intro ?_ ?_)) <;> (first | omega | (simp only [hasTy, okP, lenD, D.ren, D.isCell, Option.getD, List.length_set, List.length_take, List.length_drop, List.length_append, List.length_replicate, List.length_map, List.length_cons, List.length_nil, Option.map] <;> omega) | with_reducible assumption | with_reducible rfl | decide); done)) | refine chkG (by kernel_rfl) ?_
      refine joinG Unit (fun _ => [(2, .ptr 0 []), (4, .ptr 2 []), (5, .ptr 3 []), (6, .i64 (k + 1 : Nat))])
        (fun _ => [(0, some ⟨t15, .node (ks.map .u8s), true⟩), (2, some ⟨t16, .u8s (List.replicate 16 0), true⟩), (3, some ⟨t16, .u8s (if k + 1 < 14 then rmixF t else t), true⟩), (gid 1, some ⟨t256, .u8s boxL, false⟩)]) 4 (fun _ => True) ?_ ?_
      · repeat first | (refine EffG.mk (And.intro ?_ ?_); focus ((repeat' (first | exact trivial | refine And.intro ?_ ?_)) <;> (first | omega | (simp only [hasTy, okP, lenD, D.ren, D.isCell, Option.getD, List.length_set, List.length_take, List.length_drop, List.length_append, List.length_replicate, List.length_map, List.length_cons, List.length_nil, Option.map] <;> omega) | with_reducible assumption | with_reducible rfl | decide); done)) | (refine And.intro ?_ ?_; focus ((repeat' (first | exact trivial | refine And.intro ?_ ?_)) <;> (first | omega | (simp only [hasTy, okP, lenD, D.ren, D.isCell, Option.getD, List.length_set, List.length_take, List.length_drop, List.length_append, List.length_replicate, List.length_map, List.length_cons, List.length_nil, Option.map] <;> omega) | with_reducible assumption | with_reducible rfl | decide); done)) | refine chkG (by kernel_rfl) ?_
        refine loopG Nat (fun c => [(2, .ptr 0 []), (4, .ptr 2 []), (5, .ptr 3 []), (6, .i64 (k + 1 : Nat)), (7, .ptr 4 []), (10, .i64 c)])
          (fun c => [(0, some ⟨t15, .node (ks.map .u8s), true⟩), (2, some ⟨t16, .u8s (List.replicate 16 0), true⟩), (3, some ⟨t16, .u8s (setsI id (rmixV t) t (4 * c)), true⟩), (4, some ⟨t16, .u8s t, true⟩), (gid 1, some ⟨t256, .u8s boxL, false⟩)]) 5 (fun c => c ≤ 4 ∧ (¬ k + 1 < 14 → c = 0)) (fun c => 4 - c) 0 [0, 1, 2, 3, 4] ⟨Nat.zero_le _, fun _ => rfl⟩ ?_ ?_
        · exact viewG rfl ⟨rfl, rfl, rfl, rfl, rfl, rfl, trivial⟩ ⟨⟨_, rfl, rfl, (ren_rows _ _).symm, id⟩, ⟨_, rfl, rfl, rfl, id⟩, ⟨_, rfl, rfl, rfl, id⟩, ⟨_, rfl, rfl, rfl, id⟩, ⟨_, rfl, rfl, rfl, id⟩, trivial⟩ rfl
        intro c ⟨hc4, hc0⟩
        repeat first | (refine EffG.mk (And.intro ?_ ?_); focus ((repeat' (first | exact trivial | refine And.intro ?_ ?_)) <;> (first | omega | (simp only [hasTy, okP, lenD, D.ren, D.isCell, Option.getD, List.length_set, List.length_take, List.length_drop, List.length_append, List.length_replicate, List.length_map, List.length_cons, List.length_nil, Option.map] <;> omega) | with_reducible assumption | with_reducible rfl | decide); done)) | (refine And.intro ?_ ?_; focus ((repeat' (first | exact trivial | refine And.intro ?_ ?_)) <;> (first | omega | (simp only [hasTy, okP, lenD, D.ren, D.isCell, Option.getD, List.length_set, List.length_take, List.length_drop, List.length_append, List.length_replicate, List.length_map, List.length_cons, List.length_nil, Option.map] <;> omega) | with_reducible assumption | with_reducible rfl | decide); done)) | refine chkG (by kernel_rfl) ?_
        refine Br.split (fun h => ?_) (fun h => ?_)
        · have hc4 : c < 4 := by have := of_decide_eq_true h; omega
          repeat first | (refine EffG.mk (And.intro ?_ ?_); focus ((repeat' (first | exact trivial | refine And.intro ?_ ?_)) <;> (first | omega | (simp only [hasTy, okP, lenD, D.ren, D.isCell, Option.getD, List.length_set, List.length_take, List.length_drop, List.length_append, List.length_replicate, List.length_map, List.length_cons, List.length_nil, Option.map] <;> omega) | with_reducible assumption | with_reducible rfl | decide); done)) | (refine And.intro ?_ ?_; focus ((repeat' (first | exact trivial | refine And.intro ?_ ?_)) <;> (first | omega | (simp only [hasTy, okP, lenD, D.ren, D.isCell, Option.getD, List.length_set, List.length_take, List.length_drop, List.length_append, List.length_replicate, List.length_map, List.length_cons, List.length_nil, Option.map] <;> omega) | with_reducible assumption | with_reducible rfl | decide); done)) | refine chkG (by kernel_rfl) ?_ | refine Br.yes rfl ?_
          refine Br.split (fun h => ?_) (fun h => ?_)
          · have hk : k + 1 < 14 := by have := of_decide_eq_true h; omega
            repeat first | (refine EffG.mk (And.intro ?_ ?_); focus ((repeat' (first | exact trivial | refine And.intro ?_ ?_)) <;> (first | omega | (simp only [hasTy, okP, lenD, D.ren, D.isCell, Option.getD, List.length_set, List.length_take, List.length_drop, List.length_append, List.length_replicate, List.length_map, List.length_cons, List.length_nil, Option.map] <;> omega) | with_reducible assumption | with_reducible rfl | decide); done)) | (refine And.intro ?_ ?_; focus ((repeat' (first | exact trivial | refine And.intro ?_ ?_)) <;> (first | omega | (simp only [hasTy, okP, lenD, D.ren, D.isCell, Option.getD, List.length_set, List.length_take, List.length_drop, List.length_append, List.length_replicate, List.length_map, List.length_cons, List.length_nil, Option.map] <;> omega) | with_reducible assumption | with_reducible rfl | decide); done)) | refine chkG (by kernel_rfl) ?_
            refine loopG Nat (fun r => [(2, .ptr 0 []), (4, .ptr 2 []), (5, .ptr 3 []), (6, .i64 (k + 1 : Nat)), (7, .ptr 4 []), (10, .i64 c), (11, .i64 r)])
              (fun r => [(0, some ⟨t15, .node (ks.map .u8s), true⟩), (2, some ⟨t16, .u8s (List.replicate 16 0), true⟩), (3, some ⟨t16, .u8s (setsI id (rmixV t) t (4 * c + r)), true⟩), (4, some ⟨t16, .u8s t, true⟩), (gid 1, some ⟨t256, .u8s boxL, false⟩)]) 5 (fun r => r ≤ 4) (fun r => 4 - r) 0 [0, 1, 2, 3, 4] (Nat.zero_le _) ?_ ?_
            · exact viewG rfl ⟨rfl, rfl, rfl, rfl, rfl, rfl, rfl, trivial⟩ ⟨⟨_, rfl, rfl, (ren_rows _ _).symm, id⟩, ⟨_, rfl, rfl, rfl, id⟩, ⟨_, rfl, rfl, rfl, id⟩, ⟨_, rfl, rfl, rfl, id⟩, ⟨_, rfl, rfl, rfl, id⟩, trivial⟩ rfl
            intro r hr4
            have hq := setsI_length id (rmixV t) t (4 * c + r)
            rw [ht] at hq
            repeat first | (refine EffG.mk (And.intro ?_ ?_); focus ((repeat' (first | exact trivial | refine And.intro ?_ ?_)) <;> (first | omega | (simp only [hasTy, okP, lenD, D.ren, D.isCell, Option.getD, List.length_set, List.length_take, List.length_drop, List.length_append, List.length_replicate, List.length_map, List.length_cons, List.length_nil, Option.map] <;> omega) | with_reducible assumption | with_reducible rfl | decide); done)) | (refine And.intro ?_ ?_; focus ((repeat' (first | exact trivial | refine And.intro ?_ ?_)) <;> (first | omega | (simp only [hasTy, okP, lenD, D.ren, D.isCell, Option.getD, List.length_set, List.length_take, List.length_drop, List.length_append, List.length_replicate, List.length_map, List.length_cons, List.length_nil, Option.map] <;> omega) | with_reducible assumption | with_reducible rfl | decide); done)) | refine chkG (by kernel_rfl) ?_
            refine Br.split (fun h => ?_) (fun h => ?_)
            · have hr4 : r < 4 := by have := of_decide_eq_true h; omega
              have e1 : 4 * (c : Int) + (r : Int) = ((4 * c + r : Nat) : Int) := by omega
              have m1 : Int.tmod ((r : Int) + 1) 4 = (((r + 1) % 4 : Nat) : Int) := Int.ofNat_tmod (r + 1) 4
              have m2 : Int.tmod ((r : Int) + 2) 4 = (((r + 2) % 4 : Nat) : Int) := Int.ofNat_tmod (r + 2) 4
              have m3 : Int.tmod ((r : Int) + 3) 4 = (((r + 3) % 4 : Nat) : Int) := Int.ofNat_tmod (r + 3) 4
              have n1 : 4 * (c : Int) + (((r + 1) % 4 : Nat) : Int) = ((4 * c + (r + 1) % 4 : Nat) : Int) := by omega
              have n2 : 4 * (c : Int) + (((r + 2) % 4 : Nat) : Int) = ((4 * c + (r + 2) % 4 : Nat) : Int) := by omega
              have n3 : 4 * (c : Int) + (((r + 3) % 4 : Nat) : Int) = ((4 * c + (r + 3) % 4 : Nat) : Int) := by omega
              repeat first | rw [e1] | rw [m1] | rw [m2] | rw [m3] | rw [n1] | rw [n2] | rw [n3] | rw [Int.toNat_natCast] | (refine EffG.mk (And.intro ?_ ?_); focus ((repeat' (first | exact trivial | refine And.intro ?_ ?_)) <;> (first | omega | (simp only [hasTy, okP, lenD, D.ren, D.isCell, Option.getD, List.length_set, List.length_take, List.length_drop, List.length_append, List.length_replicate, List.length_map, List.length_cons, List.length_nil, Option.map] <;> omega) | with_reducible assumption | with_reducible rfl | decide); done)) | (refine And.intro ?_ ?_; focus ((repeat' (first | exact trivial | refine And.intro ?_ ?_)) <;> (first | omega | (simp only [hasTy, okP, lenD, D.ren, D.isCell, Option.getD, List.length_set, List.length_take, List.length_drop, List.length_append, List.length_replicate, List.length_map, List.length_cons, List.length_nil, Option.map] <;> omega) | with_reducible assumption | with_reducible rfl | decide); done)) | refine chkG (by kernel_rfl) ?_
              refine callG (twice_ac _) [] rfl rfl trivial rfl rfl ?_
              repeat first | (refine EffG.mk (And.intro ?_ ?_); focus ((repeat' (first | exact trivial | refine And.intro ?_ ?_)) <;> (first | omega | (simp only [hasTy, okP, lenD, D.ren, D.isCell, Option.getD, List.length_set, List.length_take, List.length_drop, List.length_append, List.length_replicate, List.length_map, List.length_cons, List.length_nil, Option.map] <;> omega) | with_reducible assumption | with_reducible rfl | decide); done)) | (refine And.intro ?_ ?_; focus ((repeat' (first | exact trivial | refine And.intro ?_ ?_)) <;> (first | omega | (simp only [hasTy, okP, lenD, D.ren, D.isCell, Option.getD, List.length_set, List.length_take, List.length_drop, List.length_append, List.length_replicate, List.length_map, List.length_cons, List.length_nil, Option.map] <;> omega) | with_reducible assumption | with_reducible rfl | decide); done)) | refine chkG (by kernel_rfl) ?_
              refine callG (twice_ac _) [] rfl rfl trivial rfl rfl ?_
              repeat first | (refine EffG.mk (And.intro ?_ ?_); focus ((repeat' (first | exact trivial | refine And.intro ?_ ?_)) <;> (first | omega | (simp only [hasTy, okP, lenD, D.ren, D.isCell, Option.getD, List.length_set, List.length_take, List.length_drop, List.length_append, List.length_replicate, List.length_map, List.length_cons, List.length_nil, Option.map] <;> omega) | with_reducible assumption | with_reducible rfl | decide); done)) | (refine And.intro ?_ ?_; focus ((repeat' (first | exact trivial | refine And.intro ?_ ?_)) <;> (first | omega | (simp only [hasTy, okP, lenD, D.ren, D.isCell, Option.getD, List.length_set, List.length_take, List.length_drop, List.length_append, List.length_replicate, List.length_map, List.length_cons, List.length_nil, Option.map] <;> omega) | with_reducible assumption | with_reducible rfl | decide); done)) | refine chkG (by kernel_rfl) ?_
              refine nextG (r + 1) [0, 1, 2, 3, 4] ?_ ?_ ?_
              · omega
              · omega
              · refine viewG rfl ⟨rfl, rfl, rfl, rfl, rfl, rfl, rfl, trivial⟩ ⟨⟨_, rfl, rfl, (ren_rows _ _).symm, id⟩, ⟨_, rfl, rfl, rfl, id⟩, ⟨_, rfl, rfl, congrArg D.u8s ?_, id⟩, ⟨_, rfl, rfl, rfl, id⟩, ⟨_, rfl, rfl, rfl, id⟩, trivial⟩ rfl
                rw [← Nat.add_assoc, setsI, rmixV, show (4 * c + r) / 4 = c by omega, show (4 * c + r) % 4 = r by omega]
                rfl
            · have hr4 : r = 4 := by have := of_decide_eq_false h; omega
              subst hr4
              repeat first | (refine EffG.mk (And.intro ?_ ?_); focus ((repeat' (first | exact trivial | refine And.intro ?_ ?_)) <;> (first | omega | (simp only [hasTy, okP, lenD, D.ren, D.isCell, Option.getD, List.length_set, List.length_take, List.length_drop, List.length_append, List.length_replicate, List.length_map, List.length_cons, List.length_nil, Option.map] <;> omega) | with_reducible assumption | with_reducible rfl | decide); done)) | (refine And.intro ?_ ?_; focus ((repeat' (first | exact trivial | refine And.intro ?_ ?_)) <;> (first | omega | (simp only [hasTy, okP, lenD, D.ren, D.isCell, Option.getD, List.length_set, List.length_take, List.length_drop, List.length_append, List.length_replicate, List.length_map, List.length_cons, List.length_nil, Option.map] <;> omega) | with_reducible assumption | with_reducible rfl | decide); done)) | refine chkG (by kernel_rfl) ?_
              refine nextG (c + 1) [0, 1, 2, 3, 4] ?_ ?_ ?_
              · exact ⟨by omega, fun h => absurd hk h⟩
              · show 4 - (c + 1) < 4 - c
                omega
              · exact viewG rfl ⟨rfl, rfl, rfl, rfl, rfl, rfl, trivial⟩ ⟨⟨_, rfl, rfl, (ren_rows _ _).symm, id⟩, ⟨_, rfl, rfl, rfl, id⟩, ⟨_, rfl, rfl, rfl, id⟩, ⟨_, rfl, rfl, rfl, id⟩, ⟨_, rfl, rfl, rfl, id⟩, trivial⟩ rfl
          · have hk : ¬ k + 1 < 14 := by have := of_decide_eq_false h; omega
            have hc0 := hc0 hk
            subst hc0
            refine meetG () [0, 1, 2, 3] trivial ?_
            exact viewG rfl ⟨rfl, rfl, rfl, rfl, trivial⟩ ⟨⟨_, rfl, rfl, (ren_rows _ _).symm, id⟩, ⟨_, rfl, rfl, rfl, id⟩, ⟨_, rfl, rfl, congrArg D.u8s (if_neg hk).symm, id⟩, ⟨_, rfl, rfl, rfl, id⟩, trivial⟩ rfl
        · have hc4 : c = 4 := by have := of_decide_eq_false h; omega
          subst hc4
          have hk : k + 1 < 14 := Decidable.byContradiction fun h => by have := hc0 h; omega
          repeat first | (refine EffG.mk (And.intro ?_ ?_); focus ((repeat' (first | exact trivial | refine And.intro ?_ ?_)) <;> (first | omega | (simp only [hasTy, okP, lenD, D.ren, D.isCell, Option.getD, List.length_set, List.length_take, List.length_drop, List.length_append, List.length_replicate, List.length_map, List.length_cons, List.length_nil, Option.map] <;> omega) | with_reducible assumption | with_reducible rfl | decide); done)) | (refine And.intro ?_ ?_; focus ((repeat' (first | exact trivial | refine And.intro ?_ ?_)) <;> (first | omega | (simp only [hasTy, okP, lenD, D.ren, D.isCell, Option.getD, List.length_set, List.length_take, List.length_drop, List.length_append, List.length_replicate, List.length_map, List.length_cons, List.length_nil, Option.map] <;> omega) | with_reducible assumption | with_reducible rfl | decide); done)) | refine chkG (by kernel_rfl) ?_ | refine Br.no rfl ?_
          refine meetG () [0, 1, 2, 3] trivial ?_
          exact viewG rfl ⟨rfl, rfl, rfl, rfl, trivial⟩ ⟨⟨_, rfl, rfl, (ren_rows _ _).symm, id⟩, ⟨_, rfl, rfl, rfl, id⟩, ⟨_, rfl, rfl, congrArg D.u8s (if_pos hk).symm, id⟩, ⟨_, rfl, rfl, rfl, id⟩, trivial⟩ rfl
      intro _ _
      have hz : (if k + 1 < 14 then rmixF t else t).length = 16 := by
        split
        · exact hu
        · exact ht
      generalize (if k + 1 < 14 then rmixF t else t) = z at hz hc ⊢
      have hx2 := xorF_length z (ks.getD (k + 1) [])
      rw [hz] at hx2
      repeat first | (rw [nthD_u8s (l := ks)]; rotate_left; omega) | rw [Int.toNat_natCast (k + 1)] | (refine EffG.mk (And.intro ?_ ?_); focus ((repeat' (first | exact trivial | refine And.intro ?_ ?_)) <;> (first | omega | (simp only [hasTy, okP, lenD, D.ren, D.isCell, Option.getD, List.length_set, List.length_take, List.length_drop, List.length_append, List.length_replicate, List.length_map, List.length_cons, List.length_nil, Option.map] <;> omega) | with_reducible assumption | with_reducible rfl | decide); done)) | (refine And.intro ?_ ?_; focus ((repeat' (first | exact trivial | refine And.intro ?_ ?_)) <;> (first | omega | (simp only [hasTy, okP, lenD, D.ren, D.isCell, Option.getD, List.length_set, List.length_take, List.length_drop, List.length_append, List.length_replicate, List.length_map, List.length_cons, List.length_nil, Option.map] <;> omega) | with_reducible assumption | with_reducible rfl | decide); done)) | refine chkG (by kernel_rfl) ?_
      refine callG (with_ac z (ks.getD (k + 1) []) hz (hr.get (by omega))) [] rfl rfl trivial rfl rfl ?_
      repeat first | (refine EffG.mk (And.intro ?_ ?_); focus ((repeat' (first | exact trivial | refine And.intro ?_ ?_)) <;> (first | omega | (simp only [hasTy, okP, lenD, D.ren, D.isCell, Option.getD, List.length_set, List.length_take, List.length_drop, List.length_append, List.length_replicate, List.length_map, List.length_cons, List.length_nil, Option.map] <;> omega) | with_reducible assumption | with_reducible rfl | decide); done)) | (refine And.intro ?_ ?_; focus ((repeat' (first | exact trivial | refine And.intro ?_ ?_)) <;> (first | omega | (simp only [hasTy, okP, lenD, D.ren, D.isCell, Option.getD, List.length_set, List.length_take, List.length_drop, List.length_append, List.length_replicate, List.length_map, List.length_cons, List.length_nil, Option.map] <;> omega) | with_reducible assumption | with_reducible rfl | decide); done)) | refine chkG (by kernel_rfl) ?_
      refine nextG (k + 1) [0, 1, 2, 3] ?_ ?_ ?_
      · omega
      · omega
      · exact viewG rfl ⟨rfl, rfl, rfl, rfl, trivial⟩ ⟨⟨_, rfl, rfl, (ren_rows _ _).symm, id⟩, ⟨_, rfl, rfl, rfl, id⟩, ⟨_, rfl, rfl, congrArg D.u8s hc.symm, id⟩, ⟨_, rfl, rfl, rfl, id⟩, trivial⟩ rfl
  · have hk14 : k = 14 := by have := of_decide_eq_false h; omega
    subst hk14
    generalize rencI ks b 14 = z at hl ⊢
    repeat first | (refine EffG.mk (And.intro ?_ ?_); focus ((repeat' (first | exact trivial | refine And.intro ?_ ?_)) <;> (first | omega | (simp only [hasTy, okP, lenD, D.ren, D.isCell, Option.getD, List.length_set, List.length_take, List.length_drop, List.length_append, List.length_replicate, List.length_map, List.length_cons, List.length_nil, Option.map] <;> omega) | with_reducible assumption | with_reducible rfl | decide); done)) | (refine And.intro ?_ ?_; focus ((repeat' (first | exact trivial | refine And.intro ?_ ?_)) <;> (first | omega | (simp only [hasTy, okP, lenD, D.ren, D.isCell, Option.getD, List.length_set, List.length_take, List.length_drop, List.length_append, List.length_replicate, List.length_map, List.length_cons, List.length_nil, Option.map] <;> omega) | with_reducible assumption | with_reducible rfl | decide); done)) | refine chkG (by kernel_rfl) ?_
    refine retG [] rfl rfl ⟨⟨_, rfl, rfl, rfl, id⟩, trivial⟩ rfl
end Go.Proofs.YtodkhgofmgaafaaDoor.Av

namespace Go.Proofs.YtodkhgofmgaafaaDoor.Av
open Go
set_option linter.all false
set_option maxRecDepth 3000

theorem setsI_at {ix : Nat → Nat} (v : Nat → BitVec 8) (s : List (BitVec 8)) (N : Nat) (hix : ∀ i, i < N → ix i < s.length) (hinj : ∀ i, i < N → ∀ j, j < N → ix i = ix j → i = j) : ∀ n, n ≤ N → ∀ i, i < n → (setsI ix v s n).getD (ix i) 0 = v i
  | 0, _, i, hi => by omega
  | n + 1, hn, i, hi => by
    rw [setsI, getD_set (by rw [setsI_length]; exact hix n (by omega))]
    by_cases h : i = n
    · subst h; rw [if_pos rfl]
    · rw [if_neg (fun e => h (hinj i (by omega) n (by omega) e))]
      exact setsI_at v s N hix hinj n (by omega) i (by omega)

theorem sg_form : ∀ i, i < 16 → 4 * ((i / 4 + i % 4) % 4) + i % 4 = sg i := by decide

theorem rsub_eq (s : List (BitVec 8)) : rsubF s = subI s 16 := by
  refine ext16 (rsubF_length s) (subI_length s 16) fun i hi => ?_
  have h := setsI_at (ix := id) (rsubV s) (List.replicate 16 0) 16 (fun i hi => by rw [List.length_replicate]; exact hi) (fun i _ j _ h => h) 16 (Nat.le_refl _) i hi
  rw [subI_at s 16 (Nat.le_refl _) i hi, ← sg_form i hi]
  exact h

def rcF (f : BitVec 8 → BitVec 8) (a b c d : BitVec 8) : List (BitVec 8) :=
  [f a ^^^ f b ^^^ b ^^^ c ^^^ d, f b ^^^ f c ^^^ c ^^^ d ^^^ a, f c ^^^ f d ^^^ d ^^^ a ^^^ b, f d ^^^ f a ^^^ a ^^^ b ^^^ c]
theorem rmixF_list (a0 a1 a2 a3 a4 a5 a6 a7 a8 a9 a10 a11 a12 a13 a14 a15 : BitVec 8) : rmixF [a0, a1, a2, a3, a4, a5, a6, a7, a8, a9, a10, a11, a12, a13, a14, a15] =
    rcF shiftF a0 a1 a2 a3 ++ rcF shiftF a4 a5 a6 a7 ++ rcF shiftF a8 a9 a10 a11 ++ rcF shiftF a12 a13 a14 a15 := by
  kernel_rfl
theorem rc_mc (f : BitVec 8 → BitVec 8) (hf : ∀ x y, f (x ^^^ y) = f x ^^^ f y) (a b c d : BitVec 8) : rcF f a b c d = mcF f a b c d := by
  refine list4 ?_ ?_ ?_ ?_ <;> rw [hf] <;> simp only [BitVec.xor_assoc, BitVec.xor_comm, xor_lc, xor_cancel]
theorem rmix_eq (s : List (BitVec 8)) (hs : s.length = 16) : rmixF s = mixF s := by
  obtain ⟨a0, a1, a2, a3, a4, a5, a6, a7, a8, a9, a10, a11, a12, a13, a14, a15, rfl⟩ := list16 s hs
  rw [mixF_list, rmixF_list]
  exact four (rc_mc shiftF shiftF_xor _ _ _ _) (rc_mc shiftF shiftF_xor _ _ _ _) (rc_mc shiftF shiftF_xor _ _ _ _) (rc_mc shiftF shiftF_xor _ _ _ _)
theorem renc_eq (ks : List (List (BitVec 8))) (b : List (BitVec 8)) : ∀ n, rencI ks b n = encI ks b n
  | 0 => rfl
  | n + 1 => by
    rw [rencI, encI, renc_eq ks b n, rsub_eq, rmix_eq _ (subI_length _ _)]
end Go.Proofs.YtodkhgofmgaafaaDoor.Av

namespace Go.Proofs.YtodkhgofmgaafaaDoor.Av
open Go
set_option linter.all false
set_option maxRecDepth 3000

/-- sealed by one key, and opened: all that the laws need of it -/
theorem seal_ex (b k : List (BitVec 8)) (hb : b.length = 32) (hk : k.length = 32) : ∃ s c : List (BitVec 8), s = maskF b k ∧ c = chkF b s ∧ s.length = 32 ∧ c.length = 32 ∧ s ≠ k ∧
    AC Tryd.prog 97 [.u8s b, .u8s k] 0 [gR] ⟨.tup [.u8s s, .u8s c], [], []⟩ ∧ AC Tryd.prog 47 [.u8s b, .u8s s, .u8s c] 0 [gR] ⟨.tup [.u8s k, .i64 0], [], []⟩ ∧
    AC Tryd.prog 89 [.u8s b, .u8s s] 0 [gR] ⟨.u8s c, [], []⟩ := by
  have h2 := open_ac b (maskF b k) (chkF b (maskF b k)) hb ((maskF_length b k).trans hk) (chkF_length _ _)
  rw [if_pos rfl, if_pos rfl, mask_mask b k hk] at h2
  exact ⟨_, _, rfl, rfl, (maskF_length b k).trans hk, chkF_length _ _, mask_ne b k hk, wseal_ac b k hb hk, h2, check_ac b _ hb ((maskF_length b k).trans hk)⟩

theorem set_ne {l : List (BitVec 8)} {i : Nat} {t : BitVec 8} (hi : i < l.length) (ht : t ≠ 0) : l ≠ l.set i (l.getD i 0 ^^^ t) := by
  intro h
  have h2 := congrArg (fun x => x.getD i 0) h
  simp only [getD_set hi, if_true] at h2
  have : t = 0 := by
    rw [← xor_cancel (l.getD i 0) t, ← h2, BitVec.xor_self]; rfl
  exact ht this
theorem open_no (b s c : List (BitVec 8)) (hb : b.length = 32) (hs : s.length = 32) (hc : c.length = 32) (h : ¬ chkF b s = c) : AC Tryd.prog 47 [.u8s b, .u8s s, .u8s c] 0 [gR] ⟨.tup [.u8s (List.replicate 32 0), .i64 30], [], []⟩ := by
  have := open_ac b s c hb hs hc
  rw [if_neg h, if_neg h] at this
  exact this
theorem open_any (b s c : List (BitVec 8)) (hb : b.length = 32) (hs : s.length = 32) (hc : c.length = 32) : ∃ (y : List (BitVec 8)) (f : Int), y.length = 32 ∧ AC Tryd.prog 47 [.u8s b, .u8s s, .u8s c] 0 [gR] ⟨.tup [.u8s y, .i64 f], [], []⟩ ∧
    ((f = 30 ∧ y = List.replicate 32 0) ∨ (f = 0 ∧ AC Tryd.prog 89 [.u8s b, .u8s s] 0 [gR] ⟨.u8s c, [], []⟩)) := by
  by_cases h : chkF b s = c
  · have := open_ac b s c hb hs hc
    rw [if_pos h, if_pos h] at this
    have h2 := check_ac b s hb hs
    rw [h] at h2
    exact ⟨_, _, (maskF_length b s).trans hs, this, .inr ⟨rfl, h2⟩⟩
  · exact ⟨_, _, rfl, open_no b s c hb hs hc h, .inl ⟨rfl, rfl⟩⟩

end Go.Proofs.YtodkhgofmgaafaaDoor.Av

namespace Go.Proofs.YtodkhgofmgaafaaDoor.Av
open Go
set_option linter.all false
set_option maxRecDepth 3000

/-! the document's wrapped keys -/
abbrev gBK : Mem := [(gid 1, some ⟨t256, .u8s boxL, false⟩), gK]
def rmI (k a b : List (BitVec 8)) : Nat → List (BitVec 8)
  | 0 => k
  | i + 1 => ((rmI k a b i).set i ((rmI k a b i).getD i 0 ^^^ a.getD i 0)).set (16 + (i : Int)).toNat (((rmI k a b i).set i ((rmI k a b i).getD i 0 ^^^ a.getD i 0)).getD (16 + (i : Int)).toNat 0 ^^^ b.getD i 0)
theorem rmI_length (k a b : List (BitVec 8)) : ∀ i, (rmI k a b i).length = k.length
  | 0 => rfl
  | i + 1 => by rw [rmI, List.length_set, List.length_set, rmI_length k a b i]
theorem rmI_at (k a b : List (BitVec 8)) (hk : k.length = 32) : ∀ n, n ≤ 16 → ∀ j, (rmI k a b n).getD j 0 = if j < n then k.getD j 0 ^^^ a.getD j 0 else if 16 ≤ j ∧ j < 16 + n then k.getD j 0 ^^^ b.getD (j - 16) 0 else k.getD j 0
  | 0, _, j => by rw [if_neg (by omega), if_neg (by omega)]; rfl
  | n + 1, hn, j => by
    have hl := rmI_length k a b n
    rw [rmI, show (16 + (n : Int)).toNat = 16 + n by omega, getD_set (by rw [List.length_set]; omega), getD_set (by omega), getD_set (by omega), rmI_at k a b hk n (by omega), rmI_at k a b hk n (by omega), rmI_at k a b hk n (by omega)]
    repeat' split
    all_goals first | (exfalso; omega) | rfl | (subst_vars; first | rfl | (exfalso; omega) | (rw [show 16 + n - 16 = n by omega]))
theorem rm_mask (by_ k : List (BitVec 8)) (hk : k.length = 32) : rmI k (encI (schedF (labF by_ wrapS)) (blkN 0) 14) (encI (schedF (labF by_ wrapS)) (blkN 1) 14) 16 = maskF by_ k := by
  refine eq_getD (by rw [rmI_length, maskF_length]) fun j hj => ?_
  rw [rmI_length, hk] at hj
  rw [rmI_at _ _ _ hk 16 (Nat.le_refl _), maskF_at _ _ hk j hj]
  unfold mkB
  by_cases h : j < 16
  · rw [if_pos h, if_pos h]
  · rw [if_neg h, if_pos (by omega), if_neg h]

theorem rmasked_ac (b k : List (BitVec 8)) (hb : b.length = 32) (hk : k.length = 32) : AC Tryd.prog 93 [.u8s b, .u8s k] 0 gBK ⟨.u8s (maskF b k), [], []⟩ := by
  have e := rm_mask b k hk
  have hl := rlabel_ac b wrapS hb (by decide)
  have hll := labF_length b wrapS
  generalize labF b wrapS = x at e hl hll
  have hr : Rows 15 16 (schedF x) := ⟨schedF_length x, schedF_lens x hll⟩
  have hs := rsch_ac x hll
  rw [rsch_eq x hll] at hs
  generalize schedF x = ks at e hr hs
  have h0 := renc_ac ks (blkN 0) rfl hr
  have h1 := renc_ac ks (blkN 1) rfl hr
  rw [renc_eq] at h0 h1
  have l0 := encI_length ks (blkN 0) rfl 14
  have l1 := encI_length ks (blkN 1) rfl 14
  generalize encI ks (blkN 0) 14 = p at e h0 l0
  generalize encI ks (blkN 1) 14 = q at e h1 l1
  refine acA tab mix Tryd.func93 {} ?_
  repeat first | refine EffG.mk (obA ?_) | refine obA ?_ | refine chkA ?_
  refine callA hl [] ?_
  repeat first | refine EffG.mk (obA ?_) | refine obA ?_ | refine chkA ?_
  refine callR hs [] (.node (ks.map .u8s)) [] rfl rfl ⟨⟨_, rfl, rfl, rfl, id⟩, trivial⟩ rfl rfl (ren_rows _ ks) rfl ?_
  repeat first | refine EffG.mk (obA ?_) | refine obA ?_ | refine chkA ?_
  refine EffG.mk (And.intro ⟨trivial, hr.ty⟩ ?_)
  repeat first | refine EffG.mk (obA ?_) | refine obA ?_ | refine chkA ?_
  refine callA h0 [] ?_ (hargs := congrArg (fun d => [d, D.u8s (blkN 0)]) (ren_rows _ ks).symm)
  repeat first | refine EffG.mk (obA ?_) | refine obA ?_ | refine chkA ?_
  refine callA h1 [] ?_ (hargs := congrArg (fun d => [d, D.u8s (blkN 1)]) (ren_rows _ ks).symm)
  repeat first | refine EffG.mk (obA ?_) | refine obA ?_ | refine chkA ?_
  refine loopG Nat (fun i => [(3, .ptr 1 []), (4, .ptr 2 []), (6, .ptr 3 []), (7, .ptr 4 []), (8, .i64 i)]) (fun i => [(1, some ⟨t32, .u8s (rmI k p q i), true⟩), (2, some ⟨t32, .u8s (List.replicate 32 0), true⟩), (3, some ⟨t16, .u8s p, true⟩), (4, some ⟨t16, .u8s q, true⟩), (gid 1, some ⟨t256, .u8s boxL, false⟩), gK]) 5
    (fun i => i ≤ 16) (fun i => 16 - i) 0 [0, 1, 2, 4, 5] (Nat.zero_le _) viewA ?_
  intro i hi
  have hx := rmI_length k p q i
  rw [hk] at hx
  repeat first | refine EffG.mk (obA ?_) | refine obA ?_ | refine chkA ?_
  refine Br.split (fun h => ?_) (fun h => ?_)
  · have hi : i < 16 := by have := of_decide_eq_true h; omega
    repeat first | refine EffG.mk (obA ?_) | refine obA ?_ | refine chkA ?_
    refine nextA (i + 1) [0, 1, 2, 3, 4] viewA
  · obtain rfl : i = 16 := by have := of_decide_eq_false h; omega
    rw [e] at hx ⊢
    repeat first | refine EffG.mk (obA ?_) | refine obA ?_ | refine chkA ?_
    refine retA []
end Go.Proofs.YtodkhgofmgaafaaDoor.Av

namespace Go.Proofs.YtodkhgofmgaafaaDoor.Av
open Go
set_option linter.all false
set_option maxRecDepth 3000

theorem rcheck_ac (b s : List (BitVec 8)) (hb : b.length = 32) (hs : s.length = 32) : AC Tryd.prog 92 [.u8s b, .u8s s] 0 [gK] ⟨.u8s (chkF b s), [], []⟩ := by
  have e : chkF b s = hmF (labF b checkS) s := rfl
  have hl := rlabel_ac b checkS hb (by decide)
  have hll := labF_length b checkS
  generalize labF b checkS = x at e hl hll
  have ho := rhof_ac x s 0 32 0 32 (some 32) (some 32) (by omega) (by omega) (by decide) (by decide)
  rw [List.drop_zero, List.take_of_length_le (by omega), List.drop_zero, List.take_of_length_le (by omega), ← e] at ho
  have hy := chkF_length b s
  generalize chkF b s = y at ho hy ⊢
  refine acA tab mix Tryd.func92 {} ?_
  repeat first | refine EffG.mk (obA ?_) | refine obA ?_ | refine chkA ?_
  refine callA hl [] ?_
  repeat first | refine EffG.mk (obA ?_) | refine obA ?_ | refine chkA ?_
  refine callA ((ho.arr 0 32).arr 1 32) [3, 1] ?_
  repeat first | refine EffG.mk (obA ?_) | refine obA ?_ | refine chkA ?_
  refine retA []
theorem rseal_ac (b k : List (BitVec 8)) (hb : b.length = 32) (hk : k.length = 32) : AC Tryd.prog 130 [.u8s b, .u8s k] 0 gBK ⟨.tup [.u8s (maskF b k), .u8s (chkF b (maskF b k))], [], []⟩ := by
  have hm := rmasked_ac b k hb hk
  have hy := maskF_length b k
  rw [hk] at hy
  generalize maskF b k = y at hm hy ⊢
  have hc := rcheck_ac b y hb hy
  have hz := chkF_length b y
  generalize chkF b y = z at hc hz ⊢
  refine acA tab mix Tryd.func130 {} ?_
  repeat first | refine EffG.mk (obA ?_) | refine obA ?_ | refine chkA ?_
  refine callA hm [] ?_
  repeat first | refine EffG.mk (obA ?_) | refine obA ?_ | refine chkA ?_
  refine callA hc [] ?_
  repeat first | refine EffG.mk (obA ?_) | refine obA ?_ | refine chkA ?_
  refine retA []
theorem ropen_ac (b s c : List (BitVec 8)) (hb : b.length = 32) (hs : s.length = 32) (hc : c.length = 32) :
    AC Tryd.prog 49 [.u8s b, .u8s s, .u8s c] 0 gBK ⟨.tup [.u8s (if chkF b s = c then maskF b s else List.replicate 32 0), .i64 (if chkF b s = c then 0 else 30)], [], []⟩ := by
  have hm := rmasked_ac b s hb hs
  have hy := maskF_length b s
  rw [hs] at hy
  generalize maskF b s = y at hm hy ⊢
  have hk := rcheck_ac b s hb hs
  have hz := chkF_length b s
  generalize chkF b s = z at hk hz ⊢
  refine acA tab mix Tryd.func49 {} ?_
  repeat first | refine EffG.mk (obA ?_) | refine obA ?_ | refine chkA ?_
  refine callA hk [] ?_
  repeat first | refine EffG.mk (obA ?_) | refine obA ?_ | refine chkA ?_
  by_cases h : z = c
  · rw [if_pos h, if_pos h]
    refine Br.no (neN h) ?_
    repeat first | refine EffG.mk (obA ?_) | refine obA ?_ | refine chkA ?_
    refine callA hm [] ?_
    repeat first | refine EffG.mk (obA ?_) | refine obA ?_ | refine chkA ?_
    refine retA []
  · rw [if_neg h, if_neg h]
    refine Br.yes (neY h) ?_
    repeat first | refine EffG.mk (obA ?_) | refine obA ?_ | refine chkA ?_
    refine retA []

abbrev gRBK : Mem := [gR, (gid 1, some ⟨t256, .u8s boxL, false⟩), gK]
end Go.Proofs.YtodkhgofmgaafaaDoor.Av

namespace Go.Proofs.YtodkhgofmgaafaaDoor.Av
open Go
set_option linter.all false
set_option maxRecDepth 3000

/-! the document's key slots -/
theorem rmay_ac (t : BitVec 16) (sa se ch : List (BitVec 8)) (hs : (⟨true, t, sa, se, ch⟩ : Slot).ok) : AC Tryd.prog 48 [slotD ⟨true, t, sa, se, ch⟩] 0 [] ⟨.bool (decide (1 ≤ t.toNat ∧ t.toNat ≤ 4096)), [], []⟩ := by
  have hT := slot_ty hs
  by_cases h1 : 1 ≤ t.toNat
  · by_cases h2 : t.toNat ≤ 4096
    · rw [decide_eq_true ⟨h1, h2⟩]
      refine acA tab mix Tryd.func48 {} ?_
      refine EffG.mk (And.intro hT ?_)
      repeat first | refine EffG.mk (obA ?_) | refine obA ?_ | refine chkA ?_ | refine brY ?_ | refine brN ?_
      refine brY ?_ (h := decide_eq_true h1)
      repeat first | refine EffG.mk (obA ?_) | refine obA ?_ | refine chkA ?_ | refine brY ?_ | refine brN ?_
      have q2 : decide ((t.toNat : Int) ≤ 4096) = true := decide_eq_true (by omega)
      refine retA [] (h1 := ?_)
      show retIs (.bool true) [.bool (decide ((t.toNat : Int) ≤ 4096))]
      rw [q2]
      first | rfl | exact rfl
    · rw [decide_eq_false (show ¬ (1 ≤ t.toNat ∧ t.toNat ≤ 4096) from fun h => h2 h.2)]
      refine acA tab mix Tryd.func48 {} ?_
      refine EffG.mk (And.intro hT ?_)
      repeat first | refine EffG.mk (obA ?_) | refine obA ?_ | refine chkA ?_ | refine brY ?_ | refine brN ?_
      refine brY ?_ (h := decide_eq_true h1)
      repeat first | refine EffG.mk (obA ?_) | refine obA ?_ | refine chkA ?_ | refine brY ?_ | refine brN ?_
      have q2 : decide ((t.toNat : Int) ≤ 4096) = false := decide_eq_false (by omega)
      refine retA [] (h1 := ?_)
      show retIs (.bool false) [.bool (decide ((t.toNat : Int) ≤ 4096))]
      rw [q2]
      first | rfl | exact rfl
  · rw [decide_eq_false (show ¬ (1 ≤ t.toNat ∧ t.toNat ≤ 4096) from fun h => h1 h.1)]
    refine acA tab mix Tryd.func48 {} ?_
    refine EffG.mk (And.intro hT ?_)
    repeat first | refine EffG.mk (obA ?_) | refine obA ?_ | refine chkA ?_ | refine brY ?_ | refine brN ?_
    refine brN ?_ (h := decide_eq_false h1)
    repeat first | refine EffG.mk (obA ?_) | refine obA ?_ | refine chkA ?_ | refine brY ?_ | refine brN ?_
    refine retA []

theorem rsopen_ac (ks : List (BitVec 8)) (l : List Slot) (k : Nat) (x : Option Nat) (ha : ks.length = k) (hx : x = none → k = 0) (hk : k ≤ 512) (hl : TabS l) :
    AC Tryd.prog 16 [tabD l, slD 0 k x] 1 ((0, some ⟨.row .cell, .u8s ks, false⟩) :: gBK) ⟨.tup [.u8s (opR ks l 0).1, .i64 (opR ks l 0).2.1, .i64 (opR ks l 0).2.2], [], []⟩ := by
  have hT := hl.ty
  have hlen := hl.len
  generalize hR : opR ks l 0 = R
  rcases x with _ | c
  · refine acA tab mix Tryd.func16 {} ?_
    refine EffG.mk (And.intro hT ?_)
    repeat first | refine EffG.mk (obA ?_) | refine obA ?_ | refine chkA ?_ | refine brY ?_ | refine brN ?_ | refine lenS rfl rfl rfl rfl hx rfl rfl ?_
    refine loopG Nat (fun i => [(1, slD 0 k none), (2, .ptr 1 []), (4, .ptr 2 []), (7, .i64 i)]) (fun i => [(0, some ⟨.row .cell, .u8s ks, false⟩), (1, some ⟨tTab, tabD l, true⟩), (2, some ⟨t32, .u8s (List.replicate 32 0), true⟩), (gid 1, some ⟨t256, .u8s boxL, false⟩), gK]) 3
      (fun i => i ≤ 8 ∧ opR ks (l.drop i) i = R) (fun i => 8 - i) 0 [0, 1, 2] ⟨Nat.zero_le _, hR⟩ viewA ?_
    intro i hI
    obtain ⟨hi, hR⟩ := hI
    repeat first | refine EffG.mk (obA ?_) | refine obA ?_ | refine chkA ?_
    refine Br.split (fun h => ?_) (fun h => ?_)
    · have hi : i < 8 := by have := of_decide_eq_true h; omega
      have hs := hl.at hi
      rw [drop_slots (by omega)] at hR
      have hn := nthD_slots (l := l) (i := i) (by omega)
      obtain ⟨⟨u, t, sa, se, ch⟩, he⟩ : ∃ s, l.getD i slot0 = s := ⟨_, rfl⟩
      rw [he] at hs hR hn
      have hsok := hs
      obtain ⟨hsa, hse, hch⟩ := hs
      have hsa : sa.length = 16 := hsa
      have hse : se.length = 32 := hse
      have hch : ch.length = 32 := hch
      have hn : nthD (l.map slotD) (Int.toNat (i : Int)) = slotD ⟨u, t, sa, se, ch⟩ := hn
      repeat first | refine EffG.mk (obA ?_) | refine obA ?_ | refine chkA ?_
      rw [hn]
      cases u with
      | false =>
        rw [opR_cons, hit_free] at hR
        have hR : opR ks (l.drop (i + 1)) (i + 1) = R := hR
        repeat first | refine EffG.mk (obA ?_) | refine obA ?_ | refine chkA ?_ | refine brY ?_ | refine brN ?_
        refine nextA (i + 1) [0, 1, 2] viewA (h1 := ⟨by omega, hR⟩)
      | true =>
        have hmay := rmay_ac t sa se ch hsok
        by_cases ht : 1 ≤ t.toNat ∧ t.toNat ≤ 4096
        · rw [decide_eq_true ht] at hmay
          have hk1 := rkey_ac ks sa k t.toNat none ha hx hk hsa ht.1 ht.2
          have hyl := dkF_length ks sa t.toNat
          have hb := hit_yes (ks := ks) (sa := sa) (se := se) (ch := ch) ht.1 ht.2
          have hop := ropen_ac (dkF ks sa t.toNat) se ch hyl hse hch
          have hR : (if decide (chkF (dkF ks sa t.toNat) se = ch) = true then (maskF (dkF ks sa t.toNat) se, i, 0) else opR ks (l.drop (i + 1)) (i + 1)) = R := by
            rw [opR, hb] at hR; exact hR
          have hml := maskF_length (dkF ks sa t.toNat) se
          generalize dkF ks sa t.toNat = y at hk1 hyl hop hR hml
          generalize maskF y se = z at hop hR hml
          generalize chkF y se = c9 at hop hR
          by_cases hc : c9 = ch
          · rw [if_pos hc, if_pos hc] at hop
            rw [if_pos (decide_eq_true hc)] at hR
            subst hR
            repeat first | refine EffG.mk (obA ?_) | refine obA ?_ | refine chkA ?_ | refine brY ?_ | refine brN ?_
            refine callA hmay [] ?_
            repeat first | refine EffG.mk (obA ?_) | refine obA ?_ | refine chkA ?_ | refine brY ?_ | refine brN ?_
            refine callA hk1 [0] ?_
            repeat first | refine EffG.mk (obA ?_) | refine obA ?_ | refine chkA ?_ | refine brY ?_ | refine brN ?_
            refine callA hop [] ?_
            repeat first | refine EffG.mk (obA ?_) | refine obA ?_ | refine chkA ?_ | refine brY ?_ | refine brN ?_
            refine retA [0]
          · rw [if_neg hc, if_neg hc] at hop
            rw [if_neg (by rw [decide_eq_false hc]; decide)] at hR
            repeat first | refine EffG.mk (obA ?_) | refine obA ?_ | refine chkA ?_ | refine brY ?_ | refine brN ?_
            refine callA hmay [] ?_
            repeat first | refine EffG.mk (obA ?_) | refine obA ?_ | refine chkA ?_ | refine brY ?_ | refine brN ?_
            refine callA hk1 [0] ?_
            repeat first | refine EffG.mk (obA ?_) | refine obA ?_ | refine chkA ?_ | refine brY ?_ | refine brN ?_
            refine callA hop [] ?_
            repeat first | refine EffG.mk (obA ?_) | refine obA ?_ | refine chkA ?_ | refine brY ?_ | refine brN ?_
            refine nextA (i + 1) [0, 1, 2] viewA (h1 := ⟨by omega, hR⟩)
        · rw [decide_eq_false ht] at hmay
          have hb := hit_no (ks := ks) (sa := sa) (se := se) (ch := ch) ht
          have hR : opR ks (l.drop (i + 1)) (i + 1) = R := by
            rw [opR_cons, hb] at hR; exact hR
          repeat first | refine EffG.mk (obA ?_) | refine obA ?_ | refine chkA ?_ | refine brY ?_ | refine brN ?_
          refine callA hmay [] ?_
          repeat first | refine EffG.mk (obA ?_) | refine obA ?_ | refine chkA ?_ | refine brY ?_ | refine brN ?_
          refine nextA (i + 1) [0, 1, 2] viewA (h1 := ⟨by omega, hR⟩)
    · obtain rfl : i = 8 := by have := of_decide_eq_false h; omega
      rw [List.drop_of_length_le (by omega)] at hR
      subst hR
      repeat first | refine EffG.mk (obA ?_) | refine obA ?_ | refine chkA ?_
      refine retA [0]
  · refine acA tab mix Tryd.func16 {} ?_
    refine EffG.mk (And.intro hT ?_)
    repeat first | refine EffG.mk (obA ?_) | refine obA ?_ | refine chkA ?_ | refine brY ?_ | refine brN ?_ | refine lenS rfl rfl rfl rfl hx rfl rfl ?_
    refine loopG Nat (fun i => [(1, slD 0 k (some c)), (2, .ptr 1 []), (4, .ptr 2 []), (7, .i64 i)]) (fun i => [(0, some ⟨.row .cell, .u8s ks, false⟩), (1, some ⟨tTab, tabD l, true⟩), (2, some ⟨t32, .u8s (List.replicate 32 0), true⟩), (gid 1, some ⟨t256, .u8s boxL, false⟩), gK]) 3
      (fun i => i ≤ 8 ∧ opR ks (l.drop i) i = R) (fun i => 8 - i) 0 [0, 1, 2] ⟨Nat.zero_le _, hR⟩ viewA ?_
    intro i hI
    obtain ⟨hi, hR⟩ := hI
    repeat first | refine EffG.mk (obA ?_) | refine obA ?_ | refine chkA ?_
    refine Br.split (fun h => ?_) (fun h => ?_)
    · have hi : i < 8 := by have := of_decide_eq_true h; omega
      have hs := hl.at hi
      rw [drop_slots (by omega)] at hR
      have hn := nthD_slots (l := l) (i := i) (by omega)
      obtain ⟨⟨u, t, sa, se, ch⟩, he⟩ : ∃ s, l.getD i slot0 = s := ⟨_, rfl⟩
      rw [he] at hs hR hn
      have hsok := hs
      obtain ⟨hsa, hse, hch⟩ := hs
      have hsa : sa.length = 16 := hsa
      have hse : se.length = 32 := hse
      have hch : ch.length = 32 := hch
      have hn : nthD (l.map slotD) (Int.toNat (i : Int)) = slotD ⟨u, t, sa, se, ch⟩ := hn
      repeat first | refine EffG.mk (obA ?_) | refine obA ?_ | refine chkA ?_
      rw [hn]
      cases u with
      | false =>
        rw [opR_cons, hit_free] at hR
        have hR : opR ks (l.drop (i + 1)) (i + 1) = R := hR
        repeat first | refine EffG.mk (obA ?_) | refine obA ?_ | refine chkA ?_ | refine brY ?_ | refine brN ?_
        refine nextA (i + 1) [0, 1, 2] viewA (h1 := ⟨by omega, hR⟩)
      | true =>
        have hmay := rmay_ac t sa se ch hsok
        by_cases ht : 1 ≤ t.toNat ∧ t.toNat ≤ 4096
        · rw [decide_eq_true ht] at hmay
          have hk1 := rkey_ac ks sa k t.toNat (some c) ha hx hk hsa ht.1 ht.2
          have hyl := dkF_length ks sa t.toNat
          have hb := hit_yes (ks := ks) (sa := sa) (se := se) (ch := ch) ht.1 ht.2
          have hop := ropen_ac (dkF ks sa t.toNat) se ch hyl hse hch
          have hR : (if decide (chkF (dkF ks sa t.toNat) se = ch) = true then (maskF (dkF ks sa t.toNat) se, i, 0) else opR ks (l.drop (i + 1)) (i + 1)) = R := by
            rw [opR, hb] at hR; exact hR
          have hml := maskF_length (dkF ks sa t.toNat) se
          generalize dkF ks sa t.toNat = y at hk1 hyl hop hR hml
          generalize maskF y se = z at hop hR hml
          generalize chkF y se = c9 at hop hR
          by_cases hc : c9 = ch
          · rw [if_pos hc, if_pos hc] at hop
            rw [if_pos (decide_eq_true hc)] at hR
            subst hR
            repeat first | refine EffG.mk (obA ?_) | refine obA ?_ | refine chkA ?_ | refine brY ?_ | refine brN ?_
            refine callA hmay [] ?_
            repeat first | refine EffG.mk (obA ?_) | refine obA ?_ | refine chkA ?_ | refine brY ?_ | refine brN ?_
            refine callA hk1 [0] ?_
            repeat first | refine EffG.mk (obA ?_) | refine obA ?_ | refine chkA ?_ | refine brY ?_ | refine brN ?_
            refine callA hop [] ?_
            repeat first | refine EffG.mk (obA ?_) | refine obA ?_ | refine chkA ?_ | refine brY ?_ | refine brN ?_
            refine retA [0]
          · rw [if_neg hc, if_neg hc] at hop
            rw [if_neg (by rw [decide_eq_false hc]; decide)] at hR
            repeat first | refine EffG.mk (obA ?_) | refine obA ?_ | refine chkA ?_ | refine brY ?_ | refine brN ?_
            refine callA hmay [] ?_
            repeat first | refine EffG.mk (obA ?_) | refine obA ?_ | refine chkA ?_ | refine brY ?_ | refine brN ?_
            refine callA hk1 [0] ?_
            repeat first | refine EffG.mk (obA ?_) | refine obA ?_ | refine chkA ?_ | refine brY ?_ | refine brN ?_
            refine callA hop [] ?_
            repeat first | refine EffG.mk (obA ?_) | refine obA ?_ | refine chkA ?_ | refine brY ?_ | refine brN ?_
            refine nextA (i + 1) [0, 1, 2] viewA (h1 := ⟨by omega, hR⟩)
        · rw [decide_eq_false ht] at hmay
          have hb := hit_no (ks := ks) (sa := sa) (se := se) (ch := ch) ht
          have hR : opR ks (l.drop (i + 1)) (i + 1) = R := by
            rw [opR_cons, hb] at hR; exact hR
          repeat first | refine EffG.mk (obA ?_) | refine obA ?_ | refine chkA ?_ | refine brY ?_ | refine brN ?_
          refine callA hmay [] ?_
          repeat first | refine EffG.mk (obA ?_) | refine obA ?_ | refine chkA ?_ | refine brY ?_ | refine brN ?_
          refine nextA (i + 1) [0, 1, 2] viewA (h1 := ⟨by omega, hR⟩)
    · obtain rfl : i = 8 := by have := of_decide_eq_false h; omega
      rw [List.drop_of_length_le (by omega)] at hR
      subst hR
      repeat first | refine EffG.mk (obA ?_) | refine obA ?_ | refine chkA ?_
      refine retA [0]
theorem rsopen_long_ac (ks : List (BitVec 8)) (l : List Slot) (k : Nat) (x : Option Nat) (ha : ks.length = k) (hx : x = none → k = 0) (hk : 512 < k) (hl : TabS l) :
    AC Tryd.prog 16 [tabD l, slD 0 k x] 1 [(0, some ⟨.row .cell, .u8s ks, false⟩)] ⟨.tup [.u8s (List.replicate 32 0), .i64 0, .i64 5], [], []⟩ := by
  have hT := hl.ty
  refine acA tab mix Tryd.func16 {} ?_
  refine EffG.mk (And.intro hT ?_)
  repeat first | refine EffG.mk (obA ?_) | refine obA ?_ | refine chkA ?_ | refine brY ?_ | refine brN ?_ | refine lenS rfl rfl rfl rfl hx rfl rfl ?_
  refine retA [0]
end Go.Proofs.YtodkhgofmgaafaaDoor.Av

namespace Go.Proofs.YtodkhgofmgaafaaDoor.Av
open Go
set_option linter.all false
set_option maxRecDepth 3000

/-- the turns of a table that count -/
def lightN : List Slot → Nat
  | [] => 0
  | s :: r => (bif s.used && decide (s.turns.toNat ≤ 4096) then s.turns.toNat else 0) + lightN r
theorem lightN_le : ∀ l : List Slot, lightN l ≤ 4096 * l.length
  | [] => Nat.le_refl _
  | s :: r => by
    have := lightN_le r
    rw [lightN, List.length_cons]
    cases s.used with
    | false => simp only [Bool.false_and, cond]; omega
    | true =>
      by_cases h : s.turns.toNat ≤ 4096
      · simp only [decide_eq_true h, Bool.true_and, cond]; omega
      · simp only [decide_eq_false h, Bool.and_false, cond]; omega
theorem getP_slotf {l : List Slot} {i f : Nat} {s : Slot} {v : D} (hi : i < l.length) (hs : l.getD i slot0 = s) (h : getP (slotD s) [.fld f] = some v) : getP (tabD l) [.idx i, .fld f] = some v := by
  show getP (nthD (l.map slotD) i) [.fld f] = _
  rw [nthD_slots hi, hs]; exact h
theorem okP_slotf {l : List Slot} {i f : Nat} {s : Slot} (hi : i < l.length) (hs : l.getD i slot0 = s) (h : okP (slotD s) [.fld f]) : okP (tabD l) [.idx i, .fld f] := by
  refine ⟨by rw [List.length_map]; exact hi, ?_⟩
  show okP (nthD (l.map slotD) i) [.fld f]
  rw [nthD_slots hi, hs]; exact h

set_option maxHeartbeats 1000000 in
theorem light_ac (l : List Slot) (hl : TabS l) : AC Tryd.prog 13 [tabD l] 0 [] ⟨.bool (decide ((lightN l : Int) ≤ 400)), [], []⟩ := by
  have hT := hl.ty
  have hlen := hl.len
  have hle := lightN_le l
  generalize hR : lightN l = R at hle
  refine acA tab mix Tryd.func13 {} ?_
  refine EffG.mk (And.intro hT ?_)
  repeat first | refine EffG.mk (obA ?_) | refine obA ?_ | refine chkA ?_
  refine loopG (Nat × Nat) (fun y => [(1, .ptr 0 []), (4, .i64 y.1), (3, .i64 y.2)]) (fun y => [(0, some ⟨tTab, tabD l, true⟩)]) 1
    (fun y => y.1 ≤ 8 ∧ y.2 + lightN (l.drop y.1) = R) (fun y => 8 - y.1) (0, 0) [0] ⟨Nat.zero_le _, (Nat.zero_add _).trans hR⟩ viewA ?_
  rintro ⟨i, n⟩ hI
  obtain ⟨hi, hR⟩ := hI
  have hi : i ≤ 8 := hi
  have hR : n + lightN (l.drop i) = R := hR
  repeat first | refine EffG.mk (obA ?_) | refine obA ?_ | refine chkA ?_
  refine Br.split (fun h => ?_) (fun h => ?_)
  · have hi : i < 8 := by have := of_decide_eq_true h; omega
    have hs := hl.at hi
    rw [drop_slots (by omega), lightN] at hR
    obtain ⟨⟨u, t, sa, se, ch⟩, he⟩ : ∃ s, l.getD i slot0 = s := ⟨_, rfl⟩
    rw [he] at hs hR
    have hR : n + ((bif u && decide (t.toNat ≤ 4096) then t.toNat else 0) + lightN (l.drop (i + 1))) = R := hR
    repeat first | refine EffG.mk (obA ?_) | refine obA ?_ | refine chkA ?_
    refine loadG (.bool u) rfl rfl rfl rfl rfl (getP_slotf (i := i) (by omega) he rfl) (okP_slotf (i := i) (by omega) he trivial) ?_
    cases u with
    | false =>
      simp only [Bool.false_and, cond] at hR
      repeat first | refine EffG.mk (obA ?_) | refine obA ?_ | refine chkA ?_ | refine brY ?_ | refine brN ?_
      refine nextA (i + 1, n) [0] viewA (h1 := ⟨by show i + 1 ≤ 8; omega, by show n + lightN (l.drop (i + 1)) = R; omega⟩) (h2 := by show 8 - (i + 1) < 8 - i; omega)
    | true =>
      repeat first | refine EffG.mk (obA ?_) | refine obA ?_ | refine chkA ?_ | refine brY ?_ | refine brN ?_
      refine loadG (.u16 t) rfl rfl rfl rfl rfl (getP_slotf (i := i) (by omega) he rfl) (okP_slotf (i := i) (by omega) he trivial) ?_
      repeat first | refine EffG.mk (obA ?_) | refine obA ?_ | refine chkA ?_ | refine brY ?_ | refine brN ?_
      by_cases h4 : t.toNat ≤ 4096
      · simp only [decide_eq_true h4, Bool.true_and, cond] at hR
        refine brY ?_ (h := decide_eq_true h4)
        repeat first | refine EffG.mk (obA ?_) | refine obA ?_ | refine chkA ?_ | refine brY ?_ | refine brN ?_
        refine loadG (.u16 t) rfl rfl rfl rfl rfl (getP_slotf (i := i) (by omega) he rfl) (okP_slotf (i := i) (by omega) he trivial) ?_
        repeat first | refine EffG.mk (obA ?_) | refine obA ?_ | refine chkA ?_ | refine brY ?_ | refine brN ?_
        refine nextA (i + 1, n + t.toNat) [0] viewA (h1 := ⟨by show i + 1 ≤ 8; omega, by show n + t.toNat + lightN (l.drop (i + 1)) = R; omega⟩) (h2 := by show 8 - (i + 1) < 8 - i; omega)
      · simp only [decide_eq_false h4, Bool.and_false, cond] at hR
        refine brN ?_ (h := decide_eq_false h4)
        repeat first | refine EffG.mk (obA ?_) | refine obA ?_ | refine chkA ?_ | refine brY ?_ | refine brN ?_
        refine nextA (i + 1, n) [0] viewA (h1 := ⟨by show i + 1 ≤ 8; omega, by show n + lightN (l.drop (i + 1)) = R; omega⟩) (h2 := by show 8 - (i + 1) < 8 - i; omega)
  · obtain rfl : i = 8 := by have := of_decide_eq_false h; omega
    rw [List.drop_of_length_le (by omega)] at hR
    subst hR
    repeat first | refine EffG.mk (obA ?_) | refine obA ?_ | refine chkA ?_
    refine retA []

theorem slotsopens_ac (ks : List (BitVec 8)) (l : List Slot) (k : Nat) (x : Option Nat) (ha : ks.length = k) (hx : x = none → k = 0) (hl : TabS l) :
    AC Tryd.prog 3 [tabD l, slD 0 k x] 1 ((0, some ⟨.row .cell, .u8s ks, false⟩) :: gRBK) ⟨.bool true, [], []⟩ := by
  have hT := hl.ty
  have hli := light_ac l hl
  have haw := slawake_ac
  by_cases hlt : (lightN l : Int) ≤ 400
  · rw [decide_eq_true hlt] at hli
    by_cases hk : k ≤ 512
    · have h1 := sopen_ac ks l k x ha hx hk hl
      have h2 := rsopen_ac ks l k x ha hx hk hl
      have hol := opR_length ks l 0 hl.ok
      generalize (opR ks l 0).1 = a at h1 h2 hol
      generalize (opR ks l 0).2.1 = b at h1 h2
      generalize (opR ks l 0).2.2 = c at h1 h2
      have hq : (D.u8s a).eqb (D.u8s a) = true := eqY rfl
      refine acA tab mix Tryd.func3 {} ?_
      refine EffG.mk (And.intro hT ?_)
      repeat first | refine EffG.mk (obA ?_) | refine obA ?_ | refine chkA ?_
      refine callA hli [] ?_ (hargs := by simp only [D.rens, ren_tab]; rfl)
      repeat first | refine EffG.mk (obA ?_) | refine obA ?_ | refine chkA ?_ | refine brY ?_ | refine brN ?_
      refine callA h1 [0] ?_ (hargs := by simp only [D.rens, ren_slD, ren_tab]; rfl)
      repeat first | refine EffG.mk (obA ?_) | refine obA ?_ | refine chkA ?_
      refine callA h2 [0] ?_ (hargs := by simp only [D.rens, ren_slD, ren_tab]; rfl)
      repeat first | refine EffG.mk (obA ?_) | refine obA ?_ | refine chkA ?_ | refine brY ?_ | refine brN ?_ | rw [hq]
      refine callA haw [] ?_
      repeat first | refine EffG.mk (obA ?_) | refine obA ?_ | refine chkA ?_ | refine brY ?_ | refine brN ?_
      refine retA [0]
    · have h1 := sopen_long_ac ks l k x ha hx (by omega) hl
      have h2 := rsopen_long_ac ks l k x ha hx (by omega) hl
      refine acA tab mix Tryd.func3 {} ?_
      refine EffG.mk (And.intro hT ?_)
      repeat first | refine EffG.mk (obA ?_) | refine obA ?_ | refine chkA ?_
      refine callA hli [] ?_ (hargs := by simp only [D.rens, ren_tab]; rfl)
      repeat first | refine EffG.mk (obA ?_) | refine obA ?_ | refine chkA ?_ | refine brY ?_ | refine brN ?_
      refine callA h1 [0] ?_ (hargs := by simp only [D.rens, ren_slD, ren_tab]; rfl)
      repeat first | refine EffG.mk (obA ?_) | refine obA ?_ | refine chkA ?_
      refine callA h2 [0] ?_ (hargs := by simp only [D.rens, ren_slD, ren_tab]; rfl)
      repeat first | refine EffG.mk (obA ?_) | refine obA ?_ | refine chkA ?_ | refine brY ?_ | refine brN ?_
      refine callA haw [] ?_
      repeat first | refine EffG.mk (obA ?_) | refine obA ?_ | refine chkA ?_ | refine brY ?_ | refine brN ?_
      refine retA [0]
  · rw [decide_eq_false hlt] at hli
    refine acA tab mix Tryd.func3 {} ?_
    refine EffG.mk (And.intro hT ?_)
    repeat first | refine EffG.mk (obA ?_) | refine obA ?_ | refine chkA ?_
    refine callA hli [] ?_ (hargs := by simp only [D.rens, ren_tab]; rfl)
    repeat first | refine EffG.mk (obA ?_) | refine obA ?_ | refine chkA ?_ | refine brY ?_ | refine brN ?_
    refine callA haw [] ?_
    repeat first | refine EffG.mk (obA ?_) | refine obA ?_ | refine chkA ?_ | refine brY ?_ | refine brN ?_
    refine retA [0]
end Go.Proofs.YtodkhgofmgaafaaDoor.Av

namespace Go.Proofs.YtodkhgofmgaafaaDoor.Av
open Go
set_option linter.all false
set_option maxRecDepth 3000

/-! tables as bytes -/
theorem put16_ac (n : BitVec 16) : AC Tryd.prog 62 [.u16 n] 0 [] ⟨.slice 0 [] 0 2 none, [], [(.row .cell, .u8s (nbF (n.setWidth 64) 2))]⟩ := by
  refine acA tab mix Tryd.func62 {} ?_
  repeat first | refine EffG.mk (obA ?_) | refine obA ?_ | refine chkA ?_
  refine callA (put_ac (n.setWidth 64) 2 (by decide)) [] ?_
  repeat first | refine EffG.mk (obA ?_) | refine obA ?_ | refine chkA ?_
  refine retA [0]
theorem pad_ac (bs : List (BitVec 8)) (k : Nat) (cap : Option Nat) (h : bs.length = k) (hk : k ≤ 128) :
    AC Tryd.prog 60 [.slice 0 [] 0 k cap, .i64 128] 1 [(0, some ⟨.row .cell, .u8s bs, false⟩)] ⟨.tup [.slice 1 [] 0 128 none, .i64 0], [], [(.row .cell, .u8s (bs ++ List.replicate (128 - k) 0))]⟩ := by
  refine acA tab mix Tryd.func60 {} ?_
  repeat first | refine EffG.mk (obA ?_) | refine obA ?_ | refine chkA ?_ | refine brY ?_ | refine brN ?_
  have q1 : Nat.min k 128 = k := Nat.min_eq_left hk
  have e : List.take 0 (List.replicate 128 (0 : BitVec 8)) ++ List.take (Nat.min k 128) (List.drop 0 bs) ++ List.drop (0 + Nat.min k 128) (List.replicate 128 0) = bs ++ List.replicate (128 - k) 0 := by
    rw [q1, List.drop_zero (l := bs), List.take_of_length_le (l := bs) (by omega), Nat.zero_add, List.drop_replicate]; rfl
  refine retA [0, 1] (h3 := ?_)
  (repeat' (first | exact trivial | refine And.intro ⟨_, rfl, rfl, ?_, id⟩ ?_ | refine And.intro ⟨_, rfl, rfl, ?_, fun _ => rfl⟩ ?_)) <;> first | rfl | exact congrArg D.u8s e
theorem concat5_ac (a b c d e : List (BitVec 8)) (ha : a.length = 1) (hb : b.length = 2) (hc : c.length = 16) (hd : d.length = 32) (he : e.length = 32) :
    AC Tryd.prog 61 [.slice 0 [] 0 5 (some 5)] 6 [(0, some ⟨.row .cell, .node [.slice 1 [] 0 1 (some 1), .slice 2 [] 0 2 none, .slice 3 [] 0 16 (some 16), .slice 4 [] 0 32 (some 32), .slice 5 [] 0 32 (some 32)], true⟩),
      (1, some ⟨.row .cell, .u8s a, false⟩), (2, some ⟨.row .cell, .u8s b, false⟩), (3, some ⟨.row .cell, .u8s c, false⟩), (4, some ⟨.row .cell, .u8s d, false⟩), (5, some ⟨.row .cell, .u8s e, false⟩)]
      ⟨.slice 6 [] 0 83 none, [], [(.row .cell, .u8s (a ++ b ++ c ++ d ++ e))]⟩ := by
  refine acA tab mix Tryd.func61 ⟨[], [3, 11]⟩ ?_
  repeat first | refine EffG.mk (obA ?_) | refine obA ?_ | refine chkA ?_
  refine unrG 6 ?_
  repeat first | refine EffG.mk (obA ?_) | refine obA ?_ | refine chkA ?_ | refine brY ?_ | refine brN ?_
  refine callA (grow_ac (0 + (1 : Int) + 2 + 16 + 32 + 32) (by omega) (by omega)) [] ?_
  repeat first | refine EffG.mk (obA ?_) | refine obA ?_ | refine chkA ?_
  refine unrG 6 ?_
  repeat first | refine EffG.mk (obA ?_) | refine obA ?_ | refine chkA ?_ | refine brY ?_ | refine brN ?_
  refine ⟨0, ?_⟩
  repeat first | refine EffG.mk (obA ?_) | refine obA ?_ | refine chkA ?_ | refine brY ?_ | refine brN ?_
  refine ⟨0, ?_⟩
  repeat first | refine EffG.mk (obA ?_) | refine obA ?_ | refine chkA ?_ | refine brY ?_ | refine brN ?_
  refine ⟨0, ?_⟩
  repeat first | refine EffG.mk (obA ?_) | refine obA ?_ | refine chkA ?_ | refine brY ?_ | refine brN ?_
  refine ⟨0, ?_⟩
  repeat first | refine EffG.mk (obA ?_) | refine obA ?_ | refine chkA ?_ | refine brY ?_ | refine brN ?_
  refine ⟨0, ?_⟩
  repeat first | refine EffG.mk (obA ?_) | refine obA ?_ | refine chkA ?_ | refine brY ?_ | refine brN ?_
  refine retA [0, 1, 2, 3, 4, 5, 11] (h3 := ?_)
  (repeat' (first | exact trivial | refine And.intro ⟨_, rfl, rfl, ?_, id⟩ ?_ | refine And.intro ⟨_, rfl, rfl, ?_, fun _ => rfl⟩ ?_)) <;> first | rfl | skip
  have t1 : List.take 1 a = a := List.take_of_length_le (by omega)
  have t2 : List.take 2 b = b := List.take_of_length_le (by omega)
  have t3 : List.take 16 c = c := List.take_of_length_le (by omega)
  have t4 : List.take 32 d = d := List.take_of_length_le (by omega)
  have t5 : List.take 32 e = e := List.take_of_length_le (by omega)
  have k2 : List.take 3 (a ++ b) = a ++ b := List.take_of_length_le (by simp only [List.length_append]; omega)
  have k3 : List.take 19 (a ++ b ++ c) = a ++ b ++ c := List.take_of_length_le (by simp only [List.length_append]; omega)
  have k4 : List.take 51 (a ++ b ++ c ++ d) = a ++ b ++ c ++ d := List.take_of_length_le (by simp only [List.length_append]; omega)
  exact congrArg D.u8s (show List.take 51 (List.take 19 (List.take 3 (List.take 1 (List.take 1 a) ++ List.take 2 b) ++ List.take 16 c) ++ List.take 32 d) ++ List.take 32 e = a ++ b ++ c ++ d ++ e by rw [t1, t1, t2, k2, t3, k3, t4, k4, t5])
end Go.Proofs.YtodkhgofmgaafaaDoor.Av

namespace Go.Proofs.YtodkhgofmgaafaaDoor.Av
open Go
set_option linter.all false
set_option maxRecDepth 3000

/-! an image's shape -/
abbrev geoD (c p : Nat) : D := .node [.i64 c, .i64 p]

theorem may_ac (c p : Nat) (hc : 1 ≤ c) (hc2 : c ≤ 64) (hp : 1 ≤ p) (hp2 : p ≤ 2) : AC Tryd.prog 136 [geoD c p] 0 [] ⟨.bool true, [], []⟩ := by
  have q0 : (!(D.node [.i64 c, .i64 p]).eqb (.node [.i64 0, .i64 0])) = true := by
    have : decide ((c : Int) = 0) = false := decide_eq_false (by omega)
    simp [D.eqb, D.eqbs, eqScal, this]; omega
  have q1 : decide ((c : Int) ≥ 1) = true := decide_eq_true (by omega)
  have q2 : decide ((c : Int) ≤ 64) = true := decide_eq_true (by omega)
  have q3 : decide ((p : Int) ≥ 1) = true := decide_eq_true (by omega)
  have q4 : decide ((p : Int) ≤ 2) = true := decide_eq_true (by omega)
  refine acA tab mix Tryd.func136 {} ?_
  repeat first | refine EffG.mk (obA ?_) | refine obA ?_ | refine chkA ?_ | refine brY ?_ | refine brN ?_
  rw [q0]
  repeat first | refine EffG.mk (obA ?_) | refine obA ?_ | refine chkA ?_ | refine brY ?_ | refine brN ?_
  rw [q1]
  repeat first | refine EffG.mk (obA ?_) | refine obA ?_ | refine chkA ?_ | refine brY ?_ | refine brN ?_
  rw [q4]
  refine retA []

theorem padN_ac (bs : List (BitVec 8)) (o k n : Nat) (cap : Option Nat) (h : o + k ≤ bs.length) (hk : k ≤ n) (hn : n ≤ 65536) :
    AC Tryd.prog 60 [.slice 0 [] o k cap, .i64 n] 1 [(0, some ⟨.row .cell, .u8s bs, false⟩)] ⟨.tup [.slice 1 [] 0 n none, .i64 0], [], [(.row .cell, .u8s ((bs.drop o).take k ++ List.replicate (n - k) 0))]⟩ := by
  refine acA tab mix Tryd.func60 {} ?_
  repeat first | refine EffG.mk (obA ?_) | refine obA ?_ | refine chkA ?_ | refine brY ?_ | refine brN ?_
  have q1 : Nat.min k n = k := Nat.min_eq_left hk
  have e : List.take 0 (List.replicate n (0 : BitVec 8)) ++ List.take (Nat.min k n) (List.drop o bs) ++ List.drop (0 + Nat.min k n) (List.replicate n 0) = (bs.drop o).take k ++ List.replicate (n - k) 0 := by
    rw [q1, Nat.zero_add, List.drop_replicate]; rfl
  refine retA [0, 1] (h3 := ?_)
  (repeat' (first | exact trivial | refine And.intro ⟨_, rfl, rfl, ?_, id⟩ ?_ | refine And.intro ⟨_, rfl, rfl, ?_, fun _ => rfl⟩ ?_)) <;> first | rfl | exact congrArg D.u8s e

theorem concat4_ac (a b c d : List (BitVec 8)) (ha : a.length = 9) (hb : b.length = 1) (hc : c.length = 2) (hd : d.length = 1) (ca cb cd : Option Nat) :
    AC Tryd.prog 61 [.slice 0 [] 0 4 (some 4)] 5 [(0, some ⟨.row .cell, .node [.slice 1 [] 0 9 ca, .slice 2 [] 0 1 cb, .slice 3 [] 0 2 none, .slice 4 [] 0 1 cd], true⟩),
      (1, some ⟨.row .cell, .u8s a, false⟩), (2, some ⟨.row .cell, .u8s b, false⟩), (3, some ⟨.row .cell, .u8s c, false⟩), (4, some ⟨.row .cell, .u8s d, false⟩)]
      ⟨.slice 5 [] 0 13 none, [], [(.row .cell, .u8s (a ++ b ++ c ++ d))]⟩ := by
  refine acA tab mix Tryd.func61 ⟨[], [3, 11]⟩ ?_
  repeat first | refine EffG.mk (obA ?_) | refine obA ?_ | refine chkA ?_
  refine unrG 5 ?_
  repeat first | refine EffG.mk (obA ?_) | refine obA ?_ | refine chkA ?_ | refine brY ?_ | refine brN ?_
  refine callA (grow_ac (0 + (9 : Int) + 1 + 2 + 1) (by omega) (by omega)) [] ?_
  repeat first | refine EffG.mk (obA ?_) | refine obA ?_ | refine chkA ?_
  refine unrG 5 ?_
  repeat first | refine EffG.mk (obA ?_) | refine obA ?_ | refine chkA ?_ | refine brY ?_ | refine brN ?_
  refine ⟨0, ?_⟩
  repeat first | refine EffG.mk (obA ?_) | refine obA ?_ | refine chkA ?_ | refine brY ?_ | refine brN ?_
  refine ⟨0, ?_⟩
  repeat first | refine EffG.mk (obA ?_) | refine obA ?_ | refine chkA ?_ | refine brY ?_ | refine brN ?_
  refine ⟨0, ?_⟩
  repeat first | refine EffG.mk (obA ?_) | refine obA ?_ | refine chkA ?_ | refine brY ?_ | refine brN ?_
  refine ⟨0, ?_⟩
  repeat first | refine EffG.mk (obA ?_) | refine obA ?_ | refine chkA ?_ | refine brY ?_ | refine brN ?_
  refine retA [0, 1, 2, 3, 4, 9] (h3 := ?_)
  (repeat' (first | exact trivial | refine And.intro ⟨_, rfl, rfl, ?_, id⟩ ?_ | refine And.intro ⟨_, rfl, rfl, ?_, fun _ => rfl⟩ ?_)) <;> first | rfl | skip
  have t1 : List.take 9 a = a := List.take_of_length_le (by omega)
  have t2 : List.take 1 b = b := List.take_of_length_le (by omega)
  have t3 : List.take 2 c = c := List.take_of_length_le (by omega)
  have t4 : List.take 1 d = d := List.take_of_length_le (by omega)
  have k2 : List.take 10 (a ++ b) = a ++ b := List.take_of_length_le (by simp only [List.length_append]; omega)
  have k3 : List.take 12 (a ++ b ++ c) = a ++ b ++ c := List.take_of_length_le (by simp only [List.length_append]; omega)
  exact congrArg D.u8s (show List.take 12 (List.take 10 (List.take 9 (List.take 9 a) ++ List.take 1 b) ++ List.take 2 c) ++ List.take 1 d = a ++ b ++ c ++ d by rw [t1, t1, t2, k2, t3, k3, t4])
theorem place_ac (c p : Nat) (n : BitVec 32) (hc : 1 ≤ c) (hc2 : c ≤ 64) (hp : 1 ≤ p) (hp2 : p ≤ 2) (hn : n.toNat ≤ 65535) : AC Tryd.prog 112 [geoD c p, .u32 n] 0 [] ⟨.i64 ((8 + (n.toNat : Int) * p) * 512), [], []⟩ := by
  have hm := may_ac c p hc hc2 hp hp2
  have hx : (n.toNat : Int) * p ≤ 131070 := by
    have := Nat.mul_le_mul hn hp2
    rw [← Int.natCast_mul]
    omega
  have hx0 : 0 ≤ (n.toNat : Int) * p := by rw [← Int.natCast_mul]; omega
  refine acA tab mix Tryd.func112 {} ?_
  repeat first | refine EffG.mk (obA ?_) | refine obA ?_ | refine chkA ?_ | refine brY ?_ | refine brN ?_
  refine callA hm [] ?_
  repeat first | refine EffG.mk (obA ?_) | refine obA ?_ | refine chkA ?_ | refine brY ?_ | refine brN ?_
  refine brN ?_ (decide_eq_false (show ¬ 65535 < n.toNat by omega))
  repeat first | refine EffG.mk (obA ?_) | refine obA ?_ | refine chkA ?_ | refine brY ?_ | refine brN ?_
  refine retA []
def supB (c p : Nat) : List (BitVec 8) := [82, 69, 76, 73, 81, 85, 65, 82, 89] ++ [1] ++ nbF ((BitVec.ofInt 16 c).setWidth 64) 2 ++ [BitVec.ofInt 8 p]
theorem supB_length (c p : Nat) : (supB c p).length = 13 := by simp [supB, nbF_length]
theorem sput_ac (c p : Nat) (hc : 1 ≤ c) (hc2 : c ≤ 64) (hp : 1 ≤ p) (hp2 : p ≤ 2) : AC Tryd.prog 109 [geoD c p] 0 [] ⟨.tup [.slice 0 [] 0 512 none, .i64 0], [], [(.row .cell, .u8s (supB c p ++ List.replicate (512 - 13) 0))]⟩ := by
  have hm := may_ac c p hc hc2 hp hp2
  have h1 := put16_ac (BitVec.ofInt 16 c)
  have hl := nbF_length ((BitVec.ofInt 16 c).setWidth 64) 2
  have h2 := concat4_ac [82, 69, 76, 73, 81, 85, 65, 82, 89] [1] (nbF ((BitVec.ofInt 16 c).setWidth 64) 2) [BitVec.ofInt 8 p] rfl rfl hl rfl (some 9) (some 1) (some 1)
  rw [show [82, 69, 76, 73, 81, 85, 65, 82, 89] ++ [1] ++ nbF ((BitVec.ofInt 16 c).setWidth 64) 2 ++ [BitVec.ofInt 8 p] = supB c p from rfl] at h2
  have h3 := padN_ac (supB c p) 0 13 512 none (by rw [supB_length]; decide) (by decide) (by decide)
  rw [List.drop_zero, List.take_of_length_le (by rw [supB_length]; decide)] at h3
  generalize supB c p = Y at h2 h3 ⊢
  generalize nbF ((BitVec.ofInt 16 c).setWidth 64) 2 = Z at h1 h2
  refine acA tab mix Tryd.func109 {} ?_
  repeat first | refine EffG.mk (obA ?_) | refine obA ?_ | refine chkA ?_ | refine brY ?_ | refine brN ?_
  refine callA hm [] ?_
  repeat first | refine EffG.mk (obA ?_) | refine obA ?_ | refine chkA ?_ | refine brY ?_ | refine brN ?_
  refine callA h1 [] ?_
  repeat first | refine EffG.mk (obA ?_) | refine obA ?_ | refine chkA ?_ | refine brY ?_ | refine brN ?_
  refine callA h2 [5, 1, 2, 3, 4] ?_
  repeat first | refine EffG.mk (obA ?_) | refine obA ?_ | refine chkA ?_ | refine brY ?_ | refine brN ?_
  refine callA h3 [6] ?_
  repeat first | refine EffG.mk (obA ?_) | refine obA ?_ | refine chkA ?_ | refine brY ?_ | refine brN ?_
  refine retA [7]
theorem ssum_ac (c p : Nat) (hc : 1 ≤ c) (hc2 : c ≤ 64) (hp : 1 ≤ p) (hp2 : p ≤ 2) : AC Tryd.prog 74 [geoD c p] 0 [gR] ⟨.u8s (shaF (supB c p ++ List.replicate (512 - 13) 0)), [], []⟩ := by
  have h1 := sput_ac c p hc hc2 hp hp2
  have hl : (supB c p ++ List.replicate (512 - 13) 0).length = 512 := by simp [supB_length]
  generalize supB c p ++ List.replicate (512 - 13) 0 = Y at h1 hl ⊢
  have h2 := of1_ac Y 0 512 none (by omega) (by decide) (by decide)
  rw [List.drop_zero, List.take_of_length_le (by omega)] at h2
  have hy := shaF_length Y
  generalize shaF Y = z at h2 hy ⊢
  refine acA tab mix Tryd.func74 {} ?_
  repeat first | refine EffG.mk (obA ?_) | refine obA ?_ | refine chkA ?_ | refine brY ?_ | refine brN ?_
  refine callA h1 [] ?_
  repeat first | refine EffG.mk (obA ?_) | refine obA ?_ | refine chkA ?_ | refine brY ?_ | refine brN ?_
  refine callA h2 [3, 2] ?_
  repeat first | refine EffG.mk (obA ?_) | refine obA ?_ | refine chkA ?_ | refine brY ?_ | refine brN ?_
  refine retA []
end Go.Proofs.YtodkhgofmgaafaaDoor.Av

namespace Go.Proofs.YtodkhgofmgaafaaDoor.Av
open Go
set_option linter.all false
set_option maxRecDepth 3000

/-! layer 7: what the code computes -/
def twI (t : List (BitVec 8)) : Nat → List (BitVec 8) × BitVec 8
  | 0 => (t, 0)
  | n + 1 => ((twI t n).1.set n ((twI t n).1.getD n 0 <<< 1 ||| (twI t n).2), (twI t n).1.getD n 0 >>> 7)
def twF (t : List (BitVec 8)) : List (BitVec 8) := if (twI t 16).2 = 0 then (twI t 16).1 else (twI t 16).1.set 0 ((twI t 16).1.getD 0 0 ^^^ 135)
theorem twI_length (t : List (BitVec 8)) : ∀ n, (twI t n).1.length = t.length
  | 0 => rfl
  | n + 1 => by rw [twI, List.length_set, twI_length t n]
theorem twF_length (t : List (BitVec 8)) : (twF t).length = t.length := by
  unfold twF
  split
  · exact twI_length t 16
  · rw [List.length_set, twI_length t 16]

theorem twice37_ac (t : List (BitVec 8)) (ht : t.length = 16) : AC Tryd.prog 144 [.u8s t] 0 [] ⟨.u8s (twF t), [], []⟩ := by
  refine ac_of tab mix Tryd.func144 rfl (by kernel_rfl) (by kernel_rfl) (by kernel_rfl) ⟨[9], []⟩ ?_
  repeat first | (refine EffG.mk (And.intro ?_ ?_); focus ((repeat' (first | exact trivial | refine And.intro ?_ ?_)) <;> (first | omega | (simp only [hasTy, okP, lenD, D.ren, D.isCell, Option.getD, List.length_set, List.length_take, List.length_drop, List.length_append, List.length_replicate, List.length_map, List.length_cons, List.length_nil, Option.map] <;> omega) | with_reducible assumption | with_reducible rfl | decide); done)) | (refine And.intro ?_ ?_; focus ((repeat' (first | exact trivial | refine And.intro ?_ ?_)) <;> (first | omega | (simp only [hasTy, okP, lenD, D.ren, D.isCell, Option.getD, List.length_set, List.length_take, List.length_drop, List.length_append, List.length_replicate, List.length_map, List.length_cons, List.length_nil, Option.map] <;> omega) | with_reducible assumption | with_reducible rfl | decide); done)) | refine chkG (by kernel_rfl) ?_
  refine loopG Nat (fun n => [(1, .ptr 0 []), (2, .ptr 1 []), (3, .u8 (twI t n).2), (5, .i64 n)]) (fun n => [(0, some ⟨t16, .u8s (twI t n).1, true⟩), (1, some ⟨t16, .u8s (List.replicate 16 0), true⟩)]) 2
    (fun n => n ≤ 16) (fun n => 16 - n) 0 [0, 1] (Nat.zero_le _) ?_ ?_
  · exact viewG rfl ⟨rfl, rfl, rfl, rfl, trivial⟩ ⟨⟨_, rfl, rfl, rfl, id⟩, ⟨_, rfl, rfl, rfl, id⟩, trivial⟩ rfl
  intro n hn
  have hl := twI_length t n
  rw [ht] at hl
  repeat first | (refine EffG.mk (And.intro ?_ ?_); focus ((repeat' (first | exact trivial | refine And.intro ?_ ?_)) <;> (first | omega | (simp only [hasTy, okP, lenD, D.ren, D.isCell, Option.getD, List.length_set, List.length_take, List.length_drop, List.length_append, List.length_replicate, List.length_map, List.length_cons, List.length_nil, Option.map] <;> omega) | with_reducible assumption | with_reducible rfl | decide); done)) | (refine And.intro ?_ ?_; focus ((repeat' (first | exact trivial | refine And.intro ?_ ?_)) <;> (first | omega | (simp only [hasTy, okP, lenD, D.ren, D.isCell, Option.getD, List.length_set, List.length_take, List.length_drop, List.length_append, List.length_replicate, List.length_map, List.length_cons, List.length_nil, Option.map] <;> omega) | with_reducible assumption | with_reducible rfl | decide); done)) | refine chkG (by kernel_rfl) ?_
  refine Br.split (fun h => ?_) (fun h => ?_)
  · have hn : n < 16 := by have := of_decide_eq_true h; omega
    repeat first | (refine EffG.mk (And.intro ?_ ?_); focus ((repeat' (first | exact trivial | refine And.intro ?_ ?_)) <;> (first | omega | (simp only [hasTy, okP, lenD, D.ren, D.isCell, Option.getD, List.length_set, List.length_take, List.length_drop, List.length_append, List.length_replicate, List.length_map, List.length_cons, List.length_nil, Option.map] <;> omega) | with_reducible assumption | with_reducible rfl | decide); done)) | (refine And.intro ?_ ?_; focus ((repeat' (first | exact trivial | refine And.intro ?_ ?_)) <;> (first | omega | (simp only [hasTy, okP, lenD, D.ren, D.isCell, Option.getD, List.length_set, List.length_take, List.length_drop, List.length_append, List.length_replicate, List.length_map, List.length_cons, List.length_nil, Option.map] <;> omega) | with_reducible assumption | with_reducible rfl | decide); done)) | refine chkG (by kernel_rfl) ?_
    refine nextG (n + 1) [0, 1] ?_ ?_ ?_
    · omega
    · omega
    · exact viewG rfl ⟨rfl, rfl, rfl, rfl, trivial⟩ ⟨⟨_, rfl, rfl, rfl, id⟩, ⟨_, rfl, rfl, rfl, id⟩, trivial⟩ rfl
  · have hn : n = 16 := by have := of_decide_eq_false h; omega
    subst hn
    have hF : twF t = if (twI t 16).2 = 0 then (twI t 16).1 else (twI t 16).1.set 0 ((twI t 16).1.getD 0 0 ^^^ 135) := rfl
    have hFl := twF_length t
    rw [ht] at hFl
    generalize twF t = x at hF hFl ⊢
    generalize (twI t 16).1 = a at hF hl ⊢
    generalize (twI t 16).2 = c at hF ⊢
    refine joinG Unit (fun _ => [(1, .ptr 0 []), (2, .ptr 1 [])]) (fun _ => [(0, some ⟨t16, .u8s x, true⟩), (1, some ⟨t16, .u8s (List.replicate 16 0), true⟩)]) 2 (fun _ => True) ?_ ?_
    · repeat first | (refine EffG.mk (And.intro ?_ ?_); focus ((repeat' (first | exact trivial | refine And.intro ?_ ?_)) <;> (first | omega | (simp only [hasTy, okP, lenD, D.ren, D.isCell, Option.getD, List.length_set, List.length_take, List.length_drop, List.length_append, List.length_replicate, List.length_map, List.length_cons, List.length_nil, Option.map] <;> omega) | with_reducible assumption | with_reducible rfl | decide); done)) | (refine And.intro ?_ ?_; focus ((repeat' (first | exact trivial | refine And.intro ?_ ?_)) <;> (first | omega | (simp only [hasTy, okP, lenD, D.ren, D.isCell, Option.getD, List.length_set, List.length_take, List.length_drop, List.length_append, List.length_replicate, List.length_map, List.length_cons, List.length_nil, Option.map] <;> omega) | with_reducible assumption | with_reducible rfl | decide); done)) | refine chkG (by kernel_rfl) ?_
      refine Br.split (fun h => ?_) (fun h => ?_)
      · have h : ¬ c = 0 := by simpa using h
        rw [if_neg h] at hF
        repeat first | (refine EffG.mk (And.intro ?_ ?_); focus ((repeat' (first | exact trivial | refine And.intro ?_ ?_)) <;> (first | omega | (simp only [hasTy, okP, lenD, D.ren, D.isCell, Option.getD, List.length_set, List.length_take, List.length_drop, List.length_append, List.length_replicate, List.length_map, List.length_cons, List.length_nil, Option.map] <;> omega) | with_reducible assumption | with_reducible rfl | decide); done)) | (refine And.intro ?_ ?_; focus ((repeat' (first | exact trivial | refine And.intro ?_ ?_)) <;> (first | omega | (simp only [hasTy, okP, lenD, D.ren, D.isCell, Option.getD, List.length_set, List.length_take, List.length_drop, List.length_append, List.length_replicate, List.length_map, List.length_cons, List.length_nil, Option.map] <;> omega) | with_reducible assumption | with_reducible rfl | decide); done)) | refine chkG (by kernel_rfl) ?_
        refine meetG () [0, 1] trivial (viewG rfl ⟨rfl, rfl, trivial⟩ ⟨⟨_, rfl, rfl, congrArg D.u8s hF.symm, id⟩, ⟨_, rfl, rfl, rfl, id⟩, trivial⟩ rfl)
      · have h : c = 0 := by simpa using h
        rw [if_pos h] at hF
        refine meetG () [0, 1] trivial (viewG rfl ⟨rfl, rfl, trivial⟩ ⟨⟨_, rfl, rfl, congrArg D.u8s hF.symm, id⟩, ⟨_, rfl, rfl, rfl, id⟩, trivial⟩ rfl)
    intro _ _
    repeat first | (refine EffG.mk (And.intro ?_ ?_); focus ((repeat' (first | exact trivial | refine And.intro ?_ ?_)) <;> (first | omega | (simp only [hasTy, okP, lenD, D.ren, D.isCell, Option.getD, List.length_set, List.length_take, List.length_drop, List.length_append, List.length_replicate, List.length_map, List.length_cons, List.length_nil, Option.map] <;> omega) | with_reducible assumption | with_reducible rfl | decide); done)) | (refine And.intro ?_ ?_; focus ((repeat' (first | exact trivial | refine And.intro ?_ ?_)) <;> (first | omega | (simp only [hasTy, okP, lenD, D.ren, D.isCell, Option.getD, List.length_set, List.length_take, List.length_drop, List.length_append, List.length_replicate, List.length_map, List.length_cons, List.length_nil, Option.map] <;> omega) | with_reducible assumption | with_reducible rfl | decide); done)) | refine chkG (by kernel_rfl) ?_
    refine retG [] rfl rfl trivial rfl

theorem xxor_ac (s k : List (BitVec 8)) (hs : s.length = 16) (hk : k.length = 16) : AC Tryd.prog 143 [.u8s s, .u8s k] 0 [] ⟨.u8s (xorF s k), [], []⟩ := by
  refine ac_of tab mix Tryd.func143 rfl (by kernel_rfl) (by kernel_rfl) (by kernel_rfl) {} ?_
  repeat first | (refine EffG.mk (And.intro ?_ ?_); focus ((repeat' (first | exact trivial | refine And.intro ?_ ?_)) <;> (first | omega | (simp only [hasTy, okP, lenD, D.ren, D.isCell, Option.getD, List.length_set, List.length_take, List.length_drop, List.length_append, List.length_replicate, List.length_map, List.length_cons, List.length_nil, Option.map] <;> omega) | with_reducible assumption | with_reducible rfl | decide); done)) | (refine And.intro ?_ ?_; focus ((repeat' (first | exact trivial | refine And.intro ?_ ?_)) <;> (first | omega | (simp only [hasTy, okP, lenD, D.ren, D.isCell, Option.getD, List.length_set, List.length_take, List.length_drop, List.length_append, List.length_replicate, List.length_map, List.length_cons, List.length_nil, Option.map] <;> omega) | with_reducible assumption | with_reducible rfl | decide); done)) | refine chkG (by kernel_rfl) ?_
  refine loopG Nat (fun n => [(2, .ptr 0 []), (4, .ptr 2 []), (7, .u8s k), (8, .i64 n)]) (fun n => [(0, some ⟨t16, .u8s (xorI s k n), true⟩), (2, some ⟨t16, .u8s (List.replicate 16 0), true⟩)]) 3
    (fun n => n ≤ 16) (fun n => 16 - n) 0 [0, 1, 2] (Nat.zero_le _) ?_ ?_
  · exact viewG rfl ⟨rfl, rfl, rfl, rfl, trivial⟩ ⟨⟨_, rfl, rfl, rfl, id⟩, ⟨_, rfl, rfl, rfl, id⟩, trivial⟩ rfl
  intro n hn
  have hl := xorI_length s k n
  rw [hs] at hl
  repeat first | (refine EffG.mk (And.intro ?_ ?_); focus ((repeat' (first | exact trivial | refine And.intro ?_ ?_)) <;> (first | omega | (simp only [hasTy, okP, lenD, D.ren, D.isCell, Option.getD, List.length_set, List.length_take, List.length_drop, List.length_append, List.length_replicate, List.length_map, List.length_cons, List.length_nil, Option.map] <;> omega) | with_reducible assumption | with_reducible rfl | decide); done)) | (refine And.intro ?_ ?_; focus ((repeat' (first | exact trivial | refine And.intro ?_ ?_)) <;> (first | omega | (simp only [hasTy, okP, lenD, D.ren, D.isCell, Option.getD, List.length_set, List.length_take, List.length_drop, List.length_append, List.length_replicate, List.length_map, List.length_cons, List.length_nil, Option.map] <;> omega) | with_reducible assumption | with_reducible rfl | decide); done)) | refine chkG (by kernel_rfl) ?_
  refine Br.split (fun h => ?_) (fun h => ?_)
  · have hn : n < 16 := by have := of_decide_eq_true h; omega
    repeat first | (refine EffG.mk (And.intro ?_ ?_); focus ((repeat' (first | exact trivial | refine And.intro ?_ ?_)) <;> (first | omega | (simp only [hasTy, okP, lenD, D.ren, D.isCell, Option.getD, List.length_set, List.length_take, List.length_drop, List.length_append, List.length_replicate, List.length_map, List.length_cons, List.length_nil, Option.map] <;> omega) | with_reducible assumption | with_reducible rfl | decide); done)) | (refine And.intro ?_ ?_; focus ((repeat' (first | exact trivial | refine And.intro ?_ ?_)) <;> (first | omega | (simp only [hasTy, okP, lenD, D.ren, D.isCell, Option.getD, List.length_set, List.length_take, List.length_drop, List.length_append, List.length_replicate, List.length_map, List.length_cons, List.length_nil, Option.map] <;> omega) | with_reducible assumption | with_reducible rfl | decide); done)) | refine chkG (by kernel_rfl) ?_
    refine nextG (n + 1) [0, 1, 2] ?_ ?_ ?_
    · omega
    · omega
    · exact viewG rfl ⟨rfl, rfl, rfl, rfl, trivial⟩ ⟨⟨_, rfl, rfl, rfl, id⟩, ⟨_, rfl, rfl, rfl, id⟩, trivial⟩ rfl
  · have hn : n = 16 := by have := of_decide_eq_false h; omega
    subst hn
    repeat first | (refine EffG.mk (And.intro ?_ ?_); focus ((repeat' (first | exact trivial | refine And.intro ?_ ?_)) <;> (first | omega | (simp only [hasTy, okP, lenD, D.ren, D.isCell, Option.getD, List.length_set, List.length_take, List.length_drop, List.length_append, List.length_replicate, List.length_map, List.length_cons, List.length_nil, Option.map] <;> omega) | with_reducible assumption | with_reducible rfl | decide); done)) | (refine And.intro ?_ ?_; focus ((repeat' (first | exact trivial | refine And.intro ?_ ?_)) <;> (first | omega | (simp only [hasTy, okP, lenD, D.ren, D.isCell, Option.getD, List.length_set, List.length_take, List.length_drop, List.length_append, List.length_replicate, List.length_map, List.length_cons, List.length_nil, Option.map] <;> omega) | with_reducible assumption | with_reducible rfl | decide); done)) | refine chkG (by kernel_rfl) ?_
    refine retG [] rfl rfl trivial rfl

def firI (s : BitVec 64) : Nat → List (BitVec 8) × BitVec 64
  | 0 => (List.replicate 16 0, s)
  | n + 1 => ((firI s n).1.set n ((firI s n).2.setWidth 8), (firI s n).2 >>> 8)
def firF (s : BitVec 64) : List (BitVec 8) := (firI s 8).1
theorem firI_length (s : BitVec 64) : ∀ n, (firI s n).1.length = 16
  | 0 => rfl
  | n + 1 => by rw [firI, List.length_set, firI_length s n]
abbrev tX : Ty := .st [.cell, .cell]

theorem first_ac (k2 : List (List (BitVec 8))) (s : BitVec 64) (h2 : Rows 15 16 k2) :
    AC Tryd.prog 142 [.ptr 0 [], .u64 s] 3 [(0, some ⟨tX, .node [.ptr 1 [], .ptr 2 []], true⟩), (2, some ⟨tC, keysD k2, true⟩)] ⟨.u8s (encI k2 (firF s) 14), [], []⟩ := by
  refine ac_of tab mix Tryd.func142 rfl (by kernel_rfl) (by kernel_rfl) (by kernel_rfl) {} ?_
  repeat first | (refine EffG.mk (And.intro ?_ ?_); focus ((repeat' (first | exact trivial | refine And.intro ?_ ?_)) <;> (first | omega | (simp only [hasTy, okP, lenD, D.ren, D.isCell, Option.getD, List.length_set, List.length_take, List.length_drop, List.length_append, List.length_replicate, List.length_map, List.length_cons, List.length_nil, Option.map] <;> omega) | with_reducible assumption | with_reducible rfl | decide); done)) | (refine And.intro ?_ ?_; focus ((repeat' (first | exact trivial | refine And.intro ?_ ?_)) <;> (first | omega | (simp only [hasTy, okP, lenD, D.ren, D.isCell, Option.getD, List.length_set, List.length_take, List.length_drop, List.length_append, List.length_replicate, List.length_map, List.length_cons, List.length_nil, Option.map] <;> omega) | with_reducible assumption | with_reducible rfl | decide); done)) | refine chkG (by kernel_rfl) ?_
  refine loopG Nat (fun n => [(0, .ptr 0 []), (1, .u64 (firI s n).2), (4, .ptr 3 []), (5, .ptr 4 []), (7, .i64 n)])
    (fun n => [(0, some ⟨tX, .node [.ptr 1 [], .ptr 2 []], true⟩), (2, some ⟨tC, keysD k2, true⟩), (3, some ⟨t16, .u8s (List.replicate 16 0), true⟩), (4, some ⟨t16, .u8s (firI s n).1, true⟩)]) 5
    (fun n => n ≤ 8) (fun n => 8 - n) 0 [0, 1, 2, 3, 4] (Nat.zero_le _) ?_ ?_
  · exact viewG rfl ⟨rfl, rfl, rfl, rfl, rfl, trivial⟩ ⟨⟨_, rfl, rfl, rfl, id⟩, ⟨_, rfl, rfl, (ren_keysD _ k2).symm, id⟩, ⟨_, rfl, rfl, rfl, id⟩, ⟨_, rfl, rfl, rfl, id⟩, trivial⟩ rfl
  intro n hn
  have hl := firI_length s n
  repeat first | (refine EffG.mk (And.intro ?_ ?_); focus ((repeat' (first | exact trivial | refine And.intro ?_ ?_)) <;> (first | omega | (simp only [hasTy, okP, lenD, D.ren, D.isCell, Option.getD, List.length_set, List.length_take, List.length_drop, List.length_append, List.length_replicate, List.length_map, List.length_cons, List.length_nil, Option.map] <;> omega) | with_reducible assumption | with_reducible rfl | decide); done)) | (refine And.intro ?_ ?_; focus ((repeat' (first | exact trivial | refine And.intro ?_ ?_)) <;> (first | omega | (simp only [hasTy, okP, lenD, D.ren, D.isCell, Option.getD, List.length_set, List.length_take, List.length_drop, List.length_append, List.length_replicate, List.length_map, List.length_cons, List.length_nil, Option.map] <;> omega) | with_reducible assumption | with_reducible rfl | decide); done)) | refine chkG (by kernel_rfl) ?_
  refine Br.split (fun h => ?_) (fun h => ?_)
  · have hn : n < 8 := by have := of_decide_eq_true h; omega
    repeat first | (refine EffG.mk (And.intro ?_ ?_); focus ((repeat' (first | exact trivial | refine And.intro ?_ ?_)) <;> (first | omega | (simp only [hasTy, okP, lenD, D.ren, D.isCell, Option.getD, List.length_set, List.length_take, List.length_drop, List.length_append, List.length_replicate, List.length_map, List.length_cons, List.length_nil, Option.map] <;> omega) | with_reducible assumption | with_reducible rfl | decide); done)) | (refine And.intro ?_ ?_; focus ((repeat' (first | exact trivial | refine And.intro ?_ ?_)) <;> (first | omega | (simp only [hasTy, okP, lenD, D.ren, D.isCell, Option.getD, List.length_set, List.length_take, List.length_drop, List.length_append, List.length_replicate, List.length_map, List.length_cons, List.length_nil, Option.map] <;> omega) | with_reducible assumption | with_reducible rfl | decide); done)) | refine chkG (by kernel_rfl) ?_
    refine nextG (n + 1) [0, 1, 2, 3, 4] ?_ ?_ ?_
    · omega
    · omega
    · exact viewG rfl ⟨rfl, rfl, rfl, rfl, rfl, trivial⟩ ⟨⟨_, rfl, rfl, rfl, id⟩, ⟨_, rfl, rfl, (ren_keysD _ k2).symm, id⟩, ⟨_, rfl, rfl, rfl, id⟩, ⟨_, rfl, rfl, rfl, id⟩, trivial⟩ rfl
  · have hn : n = 8 := by have := of_decide_eq_false h; omega
    subst hn
    have he := encrypt_ac k2 (firF s) hl h2.1 h2.2
    have hel := encI_length k2 (firF s) hl 14
    have hf : (firI s 8).1 = firF s := rfl
    rw [hf] at hl ⊢
    generalize encI k2 (firF s) 14 = x at he hel ⊢
    generalize firF s = y at he hl ⊢
    repeat first | (refine EffG.mk (And.intro ?_ ?_); focus ((repeat' (first | exact trivial | refine And.intro ?_ ?_)) <;> (first | omega | (simp only [hasTy, okP, lenD, D.ren, D.isCell, Option.getD, List.length_set, List.length_take, List.length_drop, List.length_append, List.length_replicate, List.length_map, List.length_cons, List.length_nil, Option.map] <;> omega) | with_reducible assumption | with_reducible rfl | decide); done)) | (refine And.intro ?_ ?_; focus ((repeat' (first | exact trivial | refine And.intro ?_ ?_)) <;> (first | omega | (simp only [hasTy, okP, lenD, D.ren, D.isCell, Option.getD, List.length_set, List.length_take, List.length_drop, List.length_append, List.length_replicate, List.length_map, List.length_cons, List.length_nil, Option.map] <;> omega) | with_reducible assumption | with_reducible rfl | decide); done)) | refine chkG (by kernel_rfl) ?_
    refine callG he [2] rfl rfl ⟨⟨_, rfl, rfl, (ren_keysD _ k2).symm, id⟩, trivial⟩ rfl rfl ?_
    repeat first | (refine EffG.mk (And.intro ?_ ?_); focus ((repeat' (first | exact trivial | refine And.intro ?_ ?_)) <;> (first | omega | (simp only [hasTy, okP, lenD, D.ren, D.isCell, Option.getD, List.length_set, List.length_take, List.length_drop, List.length_append, List.length_replicate, List.length_map, List.length_cons, List.length_nil, Option.map] <;> omega) | with_reducible assumption | with_reducible rfl | decide); done)) | (refine And.intro ?_ ?_; focus ((repeat' (first | exact trivial | refine And.intro ?_ ?_)) <;> (first | omega | (simp only [hasTy, okP, lenD, D.ren, D.isCell, Option.getD, List.length_set, List.length_take, List.length_drop, List.length_append, List.length_replicate, List.length_map, List.length_cons, List.length_nil, Option.map] <;> omega) | with_reducible assumption | with_reducible rfl | decide); done)) | refine chkG (by kernel_rfl) ?_
    refine retG [0, 1, 2] rfl rfl ⟨⟨_, rfl, rfl, rfl, id⟩, ⟨_, rfl, rfl, (ren_keysD _ k2).symm, id⟩, trivial⟩ rfl
end Go.Proofs.YtodkhgofmgaafaaDoor.Av
