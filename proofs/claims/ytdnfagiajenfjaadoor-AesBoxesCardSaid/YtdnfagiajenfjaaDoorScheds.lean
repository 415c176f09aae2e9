import Derived.Test.YtdnfagiajenfjaaDoorRefC
namespace Go.Proofs.YtdnfagiajenfjaaDoor.Av
open Go
set_option linter.all false

theorem sames_rows : ∀ {a b : List (List (BitVec 8))}, a.length = b.length → D.sames (a.map .u8s) (b.map .u8s)
  | [], [], _ => trivial
  | _ :: a, _ :: b, h => ⟨trivial, sames_rows (a := a) (b := b) (by simpa using h)⟩
  | [], _ :: _, h => by simp at h
  | _ :: _, [], h => by simp at h
theorem eqbs_self : ∀ (a : List (List (BitVec 8))), D.eqbs (a.map .u8s) (a.map .u8s) = true
  | [] => rfl
  | r :: a => by
    have := eqbs_self a
    simp only [List.map_cons, D.eqbs, D.eqb, this, decide_true, Bool.and_self]

theorem scheds_aux (key : List (BitVec 8)) (hk : key.length = 32) : ∃ ks, Rows 15 16 ks ∧ AC Tryd.prog 7 [.u8s key] 0 [] ⟨.node (ks.map .u8s), [], []⟩ ∧ AC Tryd.prog 8 [.u8s key] 0 gB ⟨.node (ks.map .u8s), [], []⟩ := by
  have h := rsch_ac key hk
  rw [rsch_eq key hk] at h
  exact ⟨schedF key, ⟨schedF_length key, schedF_lens key hk⟩, schedule_ac key hk, h⟩

theorem scheds_ac (key : List (BitVec 8)) (hk : key.length = 32) : AC Tryd.prog 3 [.u8s key] 0 gB ⟨.bool true, [], []⟩ := by
  obtain ⟨ks, hr, h1, h2⟩ := scheds_aux key hk
  have heq : (D.node (ks.map .u8s)).eqb (.node (ks.map .u8s)) = true := eqbs_self ks
  refine ac_of tab mix Tryd.func3 rfl (by kernel_rfl) (by kernel_rfl) (by kernel_rfl) {} ?_
  repeat first | (refine EffG.mk (And.intro ?_ ?_); focus ((repeat' (first | exact trivial | refine And.intro ?_ ?_)) <;> (first | omega | (simp only [hasTy, okP, D.ren, D.isCell, Option.getD, List.length_set, List.length_take, List.length_drop, List.length_append, List.length_replicate, List.length_map, List.length_cons, List.length_nil, Option.map] <;> omega) | with_reducible assumption | with_reducible rfl | decide); done)) | (refine And.intro ?_ ?_; focus ((repeat' (first | exact trivial | refine And.intro ?_ ?_)) <;> (first | omega | (simp only [hasTy, okP, D.ren, D.isCell, Option.getD, List.length_set, List.length_take, List.length_drop, List.length_append, List.length_replicate, List.length_map, List.length_cons, List.length_nil, Option.map] <;> omega) | with_reducible assumption | with_reducible rfl | decide); done)) | refine chkG (by kernel_rfl) ?_
  refine callR h1 [] (.node (ks.map .u8s)) [] rfl rfl trivial rfl rfl (ren_rows _ ks) rfl ?_
  repeat first | (refine EffG.mk (And.intro ?_ ?_); focus ((repeat' (first | exact trivial | refine And.intro ?_ ?_)) <;> (first | omega | (simp only [hasTy, okP, D.ren, D.isCell, Option.getD, List.length_set, List.length_take, List.length_drop, List.length_append, List.length_replicate, List.length_map, List.length_cons, List.length_nil, Option.map] <;> omega) | with_reducible assumption | with_reducible rfl | decide); done)) | (refine And.intro ?_ ?_; focus ((repeat' (first | exact trivial | refine And.intro ?_ ?_)) <;> (first | omega | (simp only [hasTy, okP, D.ren, D.isCell, Option.getD, List.length_set, List.length_take, List.length_drop, List.length_append, List.length_replicate, List.length_map, List.length_cons, List.length_nil, Option.map] <;> omega) | with_reducible assumption | with_reducible rfl | decide); done)) | refine chkG (by kernel_rfl) ?_
  refine callR h2 [] (.node (ks.map .u8s)) [] rfl rfl ⟨⟨_, rfl, rfl, rfl, id⟩, trivial⟩ rfl rfl (ren_rows _ ks) rfl ?_
  have hf : ∀ d ∈ ks.map D.u8s, ∃ k, k.length = 16 ∧ d = .u8s k := fun d hd => by
    obtain ⟨k, hk, rfl⟩ := List.mem_map.1 hd
    exact ⟨k, hr.2 k hk, rfl⟩
  refine EffG.mk (And.intro ⟨⟨?_, AllD_mem.2 fun d hd => ?_⟩, ⟨?_, AllD_mem.2 fun d hd => ?_⟩, sames_rows rfl⟩ ?_)
  · rw [List.length_map]; exact hr.1
  · obtain ⟨k, hk, rfl⟩ := hf d hd
    exact ⟨hk, trivial⟩
  · rw [List.length_map]; exact hr.1
  · obtain ⟨k, hk, rfl⟩ := hf d hd
    exact ⟨hk, trivial⟩
  rw [heq]
  repeat first | (refine EffG.mk (And.intro ?_ ?_); focus ((repeat' (first | exact trivial | refine And.intro ?_ ?_)) <;> (first | omega | (simp only [hasTy, okP, D.ren, D.isCell, Option.getD, List.length_set, List.length_take, List.length_drop, List.length_append, List.length_replicate, List.length_map, List.length_cons, List.length_nil, Option.map] <;> omega) | with_reducible assumption | with_reducible rfl | decide); done)) | (refine And.intro ?_ ?_; focus ((repeat' (first | exact trivial | refine And.intro ?_ ?_)) <;> (first | omega | (simp only [hasTy, okP, D.ren, D.isCell, Option.getD, List.length_set, List.length_take, List.length_drop, List.length_append, List.length_replicate, List.length_map, List.length_cons, List.length_nil, Option.map] <;> omega) | with_reducible assumption | with_reducible rfl | decide); done)) | refine chkG (by kernel_rfl) ?_ | refine Br.yes rfl ?_ | refine Br.no rfl ?_
  refine callG awake_ac [] rfl rfl trivial rfl rfl ?_
  repeat first | (refine EffG.mk (And.intro ?_ ?_); focus ((repeat' (first | exact trivial | refine And.intro ?_ ?_)) <;> (first | omega | (simp only [hasTy, okP, D.ren, D.isCell, Option.getD, List.length_set, List.length_take, List.length_drop, List.length_append, List.length_replicate, List.length_map, List.length_cons, List.length_nil, Option.map] <;> omega) | with_reducible assumption | with_reducible rfl | decide); done)) | (refine And.intro ?_ ?_; focus ((repeat' (first | exact trivial | refine And.intro ?_ ?_)) <;> (first | omega | (simp only [hasTy, okP, D.ren, D.isCell, Option.getD, List.length_set, List.length_take, List.length_drop, List.length_append, List.length_replicate, List.length_map, List.length_cons, List.length_nil, Option.map] <;> omega) | with_reducible assumption | with_reducible rfl | decide); done)) | refine chkG (by kernel_rfl) ?_ | refine Br.yes rfl ?_ | refine Br.no rfl ?_
  refine retG [] rfl rfl ⟨⟨_, rfl, rfl, rfl, id⟩, trivial⟩ rfl
end Go.Proofs.YtdnfagiajenfjaaDoor.Av
