/- Sectors that are sealed together are sealed as each one alone, by its number: for every two keys, every sector number and every two sectors. -/
import Derived.Test.YtljkjdhkofbgmaaXtsAlone
import Derived.Test.YtljkjdhkofbgmaaRowW
import Derived.Test.YtljkjdhkofbgmaaRows
namespace Go.Proofs.Ytljkjdhkofbgmaa
open Go Go.Proofs Go.Proofs.Ytljkjdhkofbgmaa Go.ChangeShapes Go.WideShapes Go.ChangeAt Go.RowKit
set_option linter.all false

theorem XtsAloneR.own : ownKnob Try.prog.godebug = none := by kernel_rfl

set_option maxRecDepth 100000 in
theorem xtsalone_lifted (os : Os) (started : os.Started) (H : Type) (enc : TypeId × Value → H) :
    ReturnsInHanded {} Try.checked os 4 .any (Rows.xtsAloneSpec.pre6 enc Try.prog Try.f4 Rows.xtsAloneRow.domain false) (Rows.xtsAloneSpec.post enc Try.prog Try.f4 false true false false) := by
  refine returnsInHanded_of_change (C := Try.checked) XtsAloneR.own started (by kernel_rfl) Try.func4
    (Av.witness7 (enc := enc) (C := Try.checked) false ⟨#[], #[.agg (List.replicate 64 (.int .u8 0)).toArray, .int .u64 0, .agg (List.replicate 1024 (.int .u8 0)).toArray], []⟩ 8 (by kernel_rfl) (by kernel_rfl) (by kernel_rfl) Try.func4 rfl rfl rfl rfl
      (fun w base j t v hj hv => by
        rw [Try.params4] at hj
        match j, hj, hv with
        | 0, hj, hv => cases hj; cases hv; exact Value.okWide_of_okWideB (by kernel_rfl)
        | 1, hj, hv => cases hj; cases hv; exact Value.okWide_of_okWideB (by kernel_rfl)
        | 2, hj, hv => cases hj; cases hv; exact Av.okWide_bytes Try.underlying34 (by kernel_rfl) (by kernel_rfl) (by decide) (by kernel_rfl)
        | j + 3, hj, hv => cases hj) (by kernel_rfl) (by kernel_rfl)) ?_
  intro W base args ds gs before hval0 hW hcnd _
  have hval : ∀ (j : Nat) t v, Try.f4.params[j]? = some t → args[j]? = some v → Value.okWide Try.prog W .any base t v := hval0
  have hW' := hW
  obtain ⟨p, q, hA0, hV, rfl, hfz, hnd⟩ := hW
  have hA : DataW.TrodAll enc Try.prog W 0 (fun _ => true) true Try.f4.params.toList args.toList ds p := hA0
  rw [Try.params4] at hA hval
  obtain ⟨v0, v1, v2, d0, d1, d2, p0, p1, p2, rfl, rfl, rfl, h0, h1, h2⟩ := trodAll_three hA
  obtain ⟨rfl, rfl⟩ := trodVars_none hV
  obtain ⟨a, b, ha, hb, rfl, hrep0, hstay0⟩ := Av.open_pair Try.underlying24 Try.underlying23 Try.underlying5 (by kernel_rfl) (by kernel_rfl) (by kernel_rfl) (hval 0 24 v0 rfl rfl) h0
  obtain ⟨n, rfl, rfl, rfl, wn⟩ := open_int Try.underlying25 (hval 1 25 v1 rfl rfl) h1
  clear hA0 hval0
  obtain ⟨l, hl, rfl, hrep, hstay⟩ := Av.open_u8s Try.underlying34 Try.underlying5 (by kernel_rfl) (by kernel_rfl) (hval 2 34 v2 rfl rfl) h2
  simp only [List.append_nil] at hW'
  refine (Av.calls_bool (Av.xtsalone_ac a b l (BitVec.ofNat 64 n.toNat) ha hb hl) (W := W) (vals := [v0, .int .u64 n, v2]) ⟨hrep0 _, Av.rep_u64 wn, hrep _, trivial⟩).mono fun e W' ⟨he, q1, q2, q3, q4⟩ => ?_
  subst he
  exact ⟨_, rfl, Av.post_flat hW' (fun _ _ _ => trodAll_mk1 (shut_bool Try.underlying4 true))
    (fun sp => trodAll_cons_mk (hstay0 _ _ _ _) (trodAll_cons_mk (shut_int Try.underlying25 wn) (trodAll_mk1 (hstay _ _ _ _)))) (fun _ => rfl)
    (Av.kept_of_same q1 q2 q4 _)⟩

theorem xtsalone_holds : Rows.XtsAloneSaid :=
  OpenClaim.holds_of_wide 4 Try.f4 rfl rfl rfl rfl rfl rfl rfl ⟨rfl, rfl, rfl, rfl, rfl⟩ rfl rfl rfl rfl rfl (by kernel_rfl) Try.func4 (by kernel_rfl)
    (of_decide_eq_true (by kernel_rfl)) (by unfold Func.isWrapper; rw [if_neg (by decide +kernel)]; exact ⟨rfl, rfl⟩)
    (fun os started H enc _ => xtsalone_lifted os started H enc)
end Go.Proofs.Ytljkjdhkofbgmaa
