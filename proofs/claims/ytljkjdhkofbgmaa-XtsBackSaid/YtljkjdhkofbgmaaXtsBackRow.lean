/- What sectors are sealed to is opened to what it was, and the other way round: for every two keys, every sector number and every bytes (of which the whole sectors among the first 2048 are taken). -/
import Derived.Test.YtljkjdhkofbgmaaXtsNil
import Derived.Test.YtljkjdhkofbgmaaRowS
import Derived.Test.YtljkjdhkofbgmaaRows
namespace Go.Proofs.Ytljkjdhkofbgmaa
open Go Go.Proofs Go.Proofs.Ytljkjdhkofbgmaa Go.ChangeShapes Go.WideShapes Go.ChangeAt Go.RowKit
set_option linter.all false

theorem XtsBackR.own : ownKnob Try.prog.godebug = none := by kernel_rfl

set_option maxRecDepth 100000 in
theorem xtsback_lifted (os : Os) (started : os.Started) (H : Type) (enc : TypeId × Value → H) :
    ReturnsInHanded {} Try.checked os 3 .any (Rows.xtsBackSpec.pre6 enc Try.prog Try.f3 Rows.xtsBackRow.domain false) (Rows.xtsBackSpec.post enc Try.prog Try.f3 false true false false) := by
  refine returnsInHanded_of_change (C := Try.checked) XtsBackR.own started (by kernel_rfl) Try.func3
    (ChangeSpec.witness6 (enc := enc) (C := Try.checked) false ⟨#[], #[.agg (List.replicate 64 (.int .u8 0)).toArray, .int .u64 0, .slice none 0 0], []⟩ 8 (by kernel_rfl) (by kernel_rfl) (by kernel_rfl) (by kernel_rfl)) ?_
  intro W base args ds gs before hval0 hW hcnd _
  have hval : ∀ (j : Nat) t v, Try.f3.params[j]? = some t → args[j]? = some v → Value.okWide Try.prog W .any base t v := hval0
  have hW' := hW
  obtain ⟨p, q, hA0, hV, rfl, hfz, hnd⟩ := hW
  have hA : DataW.TrodAll enc Try.prog W 0 (fun _ => true) true Try.f3.params.toList args.toList ds p := hA0
  rw [Try.params3] at hA hval
  obtain ⟨v0, v1, v2, d0, d1, d2, p0, p1, p2, rfl, rfl, rfl, h0, h1, h2⟩ := trodAll_three hA
  obtain ⟨rfl, rfl⟩ := trodVars_none hV
  obtain ⟨a, b, ha, hb, rfl, hrep0, hstay0⟩ := Av.open_pair Try.underlying24 Try.underlying23 Try.underlying5 (by kernel_rfl) (by kernel_rfl) (by kernel_rfl) (hval 0 24 v0 rfl rfl) h0
  obtain ⟨n, rfl, rfl, rfl, wn⟩ := open_int Try.underlying25 (hval 1 25 v1 rfl rfl) h1
  clear hA0 hval0
  rcases Av.open_slice Try.underlying26 Try.underlying5 (by kernel_rfl) (hval 2 26 v2 rfl rfl) h2 with ⟨rfl, rfl, hst⟩ | ⟨l, L, cap, hcap, hcap2, hsat, hrep, hst⟩
  · simp only [List.append_nil] at hW'
    refine (Av.calls_bool (Av.xtsback_nil_ac a b (BitVec.ofNat 64 n.toNat) ha hb) (W := W) (vals := [v0, .int .u64 n, .slice none 0 0]) ⟨hrep0 _, Av.rep_u64 wn, rfl, trivial⟩).mono fun e W' ⟨he, q1, q2, q3, q4⟩ => ?_
    subst he
    exact ⟨_, rfl, Av.post_flat hW' (fun _ _ _ => trodAll_mk1 (shut_bool Try.underlying4 true))
      (fun sp => trodAll_cons_mk (hstay0 _ _ _ _) (trodAll_cons_mk (shut_int Try.underlying25 wn) (trodAll_mk1 (hst _ _)))) (fun _ => rfl)
      (Av.kept_of_same q1 q2 q4 _)⟩
  · simp only [List.append_nil, List.nil_append] at hW'
    refine (Av.calls_bool_s (Av.xtsback_ac a b l (BitVec.ofNat 64 n.toNat) cap ha hb (by omega)) (W := W) (L := L) (vals := [v0, .int .u64 n, v2]) ⟨hrep0 _, Av.rep_u64 wn, hrep _ 0 (if_pos rfl), trivial⟩ hsat).mono fun e W' ⟨he, q1, q2, q3, q4⟩ => ?_
    subst he
    exact ⟨_, rfl, Av.post_places hW' (fun _ _ _ => trodAll_mk1 (shut_bool Try.underlying4 true))
      (fun sp hsp => trodAll_cons_mk (p := []) (hstay0 _ _ _ _) (trodAll_cons_mk (p := []) (shut_int Try.underlying25 wn) (trodAll_mk1 (hst W' sp q4 hsp)))) (fun _ => rfl)
      (Av.kept_of_same q1 q2 q4 _)⟩

theorem xtsback_holds : Rows.XtsBackSaid :=
  OpenClaim.holds_of_wide 3 Try.f3 rfl rfl rfl rfl rfl rfl rfl ⟨rfl, rfl, rfl, rfl, rfl⟩ rfl rfl rfl rfl rfl (by kernel_rfl) Try.func3 (by kernel_rfl)
    (of_decide_eq_true (by kernel_rfl)) (by unfold Func.isWrapper; rw [if_neg (by decide +kernel)]; exact ⟨rfl, rfl⟩)
    (fun os started H enc _ => xtsback_lifted os started H enc)
end Go.Proofs.Ytljkjdhkofbgmaa
