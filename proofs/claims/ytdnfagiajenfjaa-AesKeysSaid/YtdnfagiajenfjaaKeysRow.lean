/- The round keys of any key are of the key, of the ones ahead, and of the box, as the law says: for every key. -/
import Derived.Test.YtdnfagiajenfjaaKeys
import Derived.Test.YtdnfagiajenfjaaRow
import Derived.Test.YtdnfagiajenfjaaRows
namespace Go.Proofs.Ytdnfagiajenfjaa
open Go Go.Proofs Go.Proofs.Ytdnfagiajenfjaa Go.ChangeShapes Go.WideShapes Go.ChangeAt Go.RowKit
set_option linter.all false

theorem KeysR.own : ownKnob Try.prog.godebug = none := by kernel_rfl

set_option maxRecDepth 100000 in
theorem keys_lifted (os : Os) (started : os.Started) (H : Type) (enc : TypeId × Value → H) :
    ReturnsInHanded {} Try.checked os 3 .any (Rows.aesKeysSpec.pre6 enc Try.prog Try.f3 Rows.aesKeysRow.domain false) (Rows.aesKeysSpec.post enc Try.prog Try.f3 false true false false) := by
  refine returnsInHanded_of_change (C := Try.checked) KeysR.own started (by kernel_rfl) Try.func3
    (ChangeSpec.witness6 (enc := enc) (C := Try.checked) false ⟨#[], #[.agg (List.replicate 32 (.int .u8 0)).toArray], []⟩ 8 (by kernel_rfl) (by kernel_rfl) (by kernel_rfl) (by kernel_rfl)) ?_
  intro W base args ds gs before hval0 hW hcnd _
  have hval : ∀ (j : Nat) t v, Try.f3.params[j]? = some t → args[j]? = some v → Value.okWide Try.prog W .any base t v := hval0
  have hW' := hW
  obtain ⟨p, q, hA0, hV, rfl, hfz, hnd⟩ := hW
  have hA : DataW.TrodAll enc Try.prog W 0 (fun _ => true) true Try.f3.params.toList args.toList ds p := hA0
  rw [Try.params3] at hA hval
  obtain ⟨v0, d0, rfl, rfl, h0⟩ := trodAll_one hA
  obtain ⟨rfl, rfl⟩ := trodVars_none hV
  obtain ⟨l, hl, rfl, hrep, hstay⟩ := Av.open_u8s Try.underlying23 Try.underlying5 (by kernel_rfl) (by kernel_rfl) (hval 0 23 v0 rfl rfl) h0
  clear hA0 hval0
  simp only [List.append_nil] at hW'
  refine (Av.calls_bool (Av.keys_ac l hl) (W := W) (vals := [v0]) ⟨hrep _, trivial⟩).mono fun e W' ⟨he, h1, h2, h3, h4⟩ => ?_
  subst he
  exact ⟨_, rfl, Av.post_flat hW' (fun _ _ _ => trodAll_mk1 (shut_bool Try.underlying4 true)) (fun sp => trodAll_mk1 (hstay _ _ _ _)) (fun _ => rfl)
    (Av.kept_of_same h1 h2 h4 _)⟩

theorem keys_holds : Rows.AesKeysSaid :=
  OpenClaim.holds_of_wide 3 Try.f3 rfl rfl rfl rfl rfl rfl rfl ⟨rfl, rfl, rfl, rfl, rfl⟩ rfl rfl rfl rfl rfl (by kernel_rfl) Try.func3 (by kernel_rfl)
    (of_decide_eq_true (by kernel_rfl)) (by unfold Func.isWrapper; rw [if_neg (by decide +kernel)]; exact ⟨rfl, rfl⟩)
    (fun os started H enc _ => keys_lifted os started H enc)
end Go.Proofs.Ytdnfagiajenfjaa
