/- The first block is what AES makes of it between two tweaks, the second one the same with the tweak doubled: for every two keys, every sector number and every 512 bytes. -/
import Derived.Test.YtljkjdhkofbgmaaXtsBlock
import Derived.Test.YtljkjdhkofbgmaaRowS
import Derived.Test.YtljkjdhkofbgmaaRows
namespace Go.Proofs.Ytljkjdhkofbgmaa
open Go Go.Proofs Go.Proofs.Ytljkjdhkofbgmaa Go.ChangeShapes Go.WideShapes Go.ChangeAt Go.RowKit
set_option linter.all false

theorem XtsBlockR.own : ownKnob Try.prog.godebug = none := by kernel_rfl

set_option maxRecDepth 100000 in
theorem xtsblock_lifted (os : Os) (started : os.Started) (H : Type) (enc : TypeId × Value → H) :
    ReturnsInHanded {} Try.checked os 5 .any (Rows.xtsBlockSpec.pre6 enc Try.prog Try.f5 Rows.xtsBlockRow.domain false) (Rows.xtsBlockSpec.post enc Try.prog Try.f5 false true false false) := by
  refine returnsInHanded_of_change (C := Try.checked) XtsBlockR.own started (by kernel_rfl) Try.func5
    (ChangeSpec.witness6 (enc := enc) (C := Try.checked) false ⟨#[], #[.agg (List.replicate 64 (.int .u8 0)).toArray, .int .u64 0, .agg (List.replicate 512 (.int .u8 0)).toArray], []⟩ 8 (by kernel_rfl) (by kernel_rfl) (by kernel_rfl) (by kernel_rfl)) ?_
  intro W base args ds gs before hval0 hW hcnd _
  have hval : ∀ (j : Nat) t v, Try.f5.params[j]? = some t → args[j]? = some v → Value.okWide Try.prog W .any base t v := hval0
  have hW' := hW
  obtain ⟨p, q, hA0, hV, rfl, hfz, hnd⟩ := hW
  have hA : DataW.TrodAll enc Try.prog W 0 (fun _ => true) true Try.f5.params.toList args.toList ds p := hA0
  rw [Try.params5] at hA hval
  obtain ⟨v0, v1, v2, d0, d1, d2, p0, p1, p2, rfl, rfl, rfl, h0, h1, h2⟩ := trodAll_three hA
  obtain ⟨rfl, rfl⟩ := trodVars_none hV
  obtain ⟨a, b, ha, hb, rfl, hrep0, hstay0⟩ := Av.open_pair Try.underlying24 Try.underlying23 Try.underlying5 (by kernel_rfl) (by kernel_rfl) (by kernel_rfl) (hval 0 24 v0 rfl rfl) h0
  obtain ⟨n, rfl, rfl, rfl, wn⟩ := open_int Try.underlying25 (hval 1 25 v1 rfl rfl) h1
  clear hA0 hval0
  obtain ⟨l, hl, rfl, hrep, hstay⟩ := Av.open_u8s Try.underlying36 Try.underlying5 (by kernel_rfl) (by kernel_rfl) (hval 2 36 v2 rfl rfl) h2
  simp only [List.append_nil] at hW'
  refine (Av.calls_bool (Av.xtsblock_ac a b l (BitVec.ofNat 64 n.toNat) ha hb hl) (W := W) (vals := [v0, .int .u64 n, v2]) ⟨hrep0 _, Av.rep_u64 wn, hrep _, trivial⟩).mono fun e W' ⟨he, q1, q2, q3, q4⟩ => ?_
  subst he
  exact ⟨_, rfl, Av.post_flat hW' (fun _ _ _ => trodAll_mk1 (shut_bool Try.underlying4 true))
    (fun sp => trodAll_cons_mk (hstay0 _ _ _ _) (trodAll_cons_mk (shut_int Try.underlying25 wn) (trodAll_mk1 (hstay _ _ _ _)))) (fun _ => rfl)
    (Av.kept_of_same q1 q2 q4 _)⟩

theorem xtsblock_holds : Rows.XtsBlockSaid :=
  OpenClaim.holds_of_wide 5 Try.f5 rfl rfl rfl rfl rfl rfl rfl ⟨rfl, rfl, rfl, rfl, rfl⟩ rfl rfl rfl rfl rfl (by kernel_rfl) Try.func5 (by kernel_rfl)
    (of_decide_eq_true (by kernel_rfl)) (by unfold Func.isWrapper; rw [if_neg (by decide +kernel)]; exact ⟨rfl, rfl⟩)
    (fun os started H enc _ => xtsblock_lifted os started H enc)
end Go.Proofs.Ytljkjdhkofbgmaa
