/- What is encrypted with any key is decrypted to what it was, and the other way round; unlike bytes are encrypted unlike: for every key and every two blocks. -/
import Derived.Test.YtdnfagiajenfjabBack
import Derived.Test.YtdnfagiajenfjabRow
import Derived.Test.YtdnfagiajenfjabRows
namespace Go.Proofs.Ytdnfagiajenfjab
open Go Go.Proofs Go.Proofs.Ytdnfagiajenfjab Go.ChangeShapes Go.WideShapes Go.ChangeAt Go.RowKit
set_option linter.all false

theorem BackR.own : ownKnob Try.prog.godebug = none := by kernel_rfl

set_option maxRecDepth 100000 in
theorem back_lifted (os : Os) (started : os.Started) (H : Type) (enc : TypeId × Value → H) :
    ReturnsInHanded {} Try.checked os 3 .any (Rows.aesBackSpec.pre6 enc Try.prog Try.f3 Rows.aesBackRow.domain false) (Rows.aesBackSpec.post enc Try.prog Try.f3 false true false false) := by
  refine returnsInHanded_of_change (C := Try.checked) BackR.own started (by kernel_rfl) Try.func3
    (ChangeSpec.witness6 (enc := enc) (C := Try.checked) false ⟨#[], #[.agg (List.replicate 32 (.int .u8 0)).toArray, .agg (List.replicate 16 (.int .u8 0)).toArray, .agg (List.replicate 16 (.int .u8 0)).toArray], []⟩ 8 (by kernel_rfl) (by kernel_rfl) (by kernel_rfl) (by kernel_rfl)) ?_
  intro W base args ds gs before hval0 hW hcnd _
  have hval : ∀ (j : Nat) t v, Try.f3.params[j]? = some t → args[j]? = some v → Value.okWide Try.prog W .any base t v := hval0
  have hW' := hW
  obtain ⟨p, q, hA0, hV, rfl, hfz, hnd⟩ := hW
  have hA : DataW.TrodAll enc Try.prog W 0 (fun _ => true) true Try.f3.params.toList args.toList ds p := hA0
  rw [Try.params3] at hA hval
  obtain ⟨v0, v1, v2, d0, d1, d2, p0, p1, p2, rfl, rfl, rfl, h0, h1, h2⟩ := trodAll_three hA
  obtain ⟨rfl, rfl⟩ := trodVars_none hV
  obtain ⟨l0, hl0, rfl, hrep0, hstay0⟩ := Av.open_u8s Try.underlying23 Try.underlying5 (by kernel_rfl) (by kernel_rfl) (hval 0 23 v0 rfl rfl) h0
  obtain ⟨l1, hl1, rfl, hrep1, hstay1⟩ := Av.open_u8s Try.underlying24 Try.underlying5 (by kernel_rfl) (by kernel_rfl) (hval 1 24 v1 rfl rfl) h1
  obtain ⟨l2, hl2, rfl, hrep2, hstay2⟩ := Av.open_u8s Try.underlying24 Try.underlying5 (by kernel_rfl) (by kernel_rfl) (hval 2 24 v2 rfl rfl) h2
  clear hA0 hval0
  simp only [List.append_nil] at hW'
  refine (Av.calls_bool (Av.back_ac l0 l1 l2 hl0 hl1 hl2) (W := W) (vals := [v0, v1, v2]) ⟨hrep0 _, hrep1 _, hrep2 _, trivial⟩).mono fun e W' ⟨he, q1, q2, q3, q4⟩ => ?_
  subst he
  exact ⟨_, rfl, Av.post_flat hW' (fun _ _ _ => trodAll_mk1 (shut_bool Try.underlying4 true))
    (fun sp => trodAll_cons_mk (hstay0 _ _ _ _) (trodAll_cons_mk (hstay1 _ _ _ _) (trodAll_mk1 (hstay2 _ _ _ _)))) (fun _ => rfl)
    (Av.kept_of_same q1 q2 q4 _)⟩

theorem back_holds : Rows.AesBackSaid :=
  OpenClaim.holds_of_wide 3 Try.f3 rfl rfl rfl rfl rfl rfl rfl ⟨rfl, rfl, rfl, rfl, rfl⟩ rfl rfl rfl rfl rfl (by kernel_rfl) Try.func3 (by kernel_rfl)
    (of_decide_eq_true (by kernel_rfl)) (by unfold Func.isWrapper; rw [if_neg (by decide +kernel)]; exact ⟨rfl, rfl⟩)
    (fun os started H enc _ => back_lifted os started H enc)
end Go.Proofs.Ytdnfagiajenfjab
