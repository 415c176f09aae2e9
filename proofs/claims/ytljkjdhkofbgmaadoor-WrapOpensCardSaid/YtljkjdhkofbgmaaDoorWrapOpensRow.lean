/- Any sealed key, with any check, is opened, or not, as the document says: for every key, sealed key and check, with the constants of the sums and the box as the program's texts lay them. -/
import Derived.Test.YtljkjdhkofbgmaaDoorM6
import Derived.Test.YtljkjdhkofbgmaaDoorRows
import Derived.Test.YtljkjdhkofbgmaaDoorTie
import Derived.Test.YtljkjdhkofbgmaaDoorCards
import Derived.SevenTiedAt
namespace Go.Proofs.YtljkjdhkofbgmaaDoor
open Go Go.Proofs Go.Proofs.YtljkjdhkofbgmaaDoor Go.ChangeShapes Go.WideShapes Go.ChangeAt Go.RowKit
set_option linter.all false
set_option maxRecDepth 3000

theorem WrapOpensR.own : ownKnob Tryd.prog.godebug = none := by kernel_rfl

theorem WrapOpensR.laid0 : (Rows.laid_reliquary_sha_roots : DataW Unit) = .agg (Av.K256.map fun b => .lit (.int .u32 b.toNat)) := by kernel_rfl

theorem WrapOpensR.sat0 {W : World} (h : laidMetH Tryd.prog Rows.wrapOpensRow.laid W) : Av.SatE (fun _ => none) ⟨.arr 64 .cell, .u32s Av.K256, false⟩ ⟨2, 0, 64, .arr 64 .cell⟩ W := by
  rw [MakeChecks.laidMetH_plain _ _ _ (by kernel_rfl)] at h
  have hr := Lib.laidMet.reads h (n := "reliquary/sha.roots") (d := Rows.laid_reliquary_sha_roots) (by simp [Rows.wrapOpensRow])
  rw [WrapOpensR.laid0] at hr
  exact Av.sat_u32s (t := 118) (e := 105) (by kernel_rfl) (by kernel_rfl) Tryd.underlying118 Tryd.underlying105 (by kernel_rfl) (by kernel_rfl) Av.K256_length hr

theorem WrapOpensR.laid1 : (Rows.laid_reliquary_reliquaryref06_Box : DataW Unit) = .agg (Av.boxL.map fun b => .lit (.int .u8 b.toNat)) := by kernel_rfl

theorem WrapOpensR.sat1 {W : World} (h : laidMetH Tryd.prog Rows.wrapOpensRow.laid W) : Av.SatE (fun _ => none) ⟨.arr 256 .cell, .u8s Av.boxL, false⟩ ⟨0, 0, 256, .arr 256 .cell⟩ W := by
  rw [MakeChecks.laidMetH_plain _ _ _ (by kernel_rfl)] at h
  have hr := Lib.laidMet.reads h (n := "reliquary/reliquaryref06.Box") (d := Rows.laid_reliquary_reliquaryref06_Box) (by simp [Rows.wrapOpensRow])
  rw [WrapOpensR.laid1] at hr
  exact Av.sat_u8s (t := 74) (e := 5) (by kernel_rfl) (by kernel_rfl) Tryd.underlying74 Tryd.underlying5 (by kernel_rfl) (by kernel_rfl) Av.boxL_length hr

theorem WrapOpensR.laid2 : (Rows.laid_reliquary_reliquaryref03_k : DataW Unit) = .agg (Av.K256.map fun b => .lit (.int .u32 b.toNat)) := by kernel_rfl

theorem WrapOpensR.sat2 {W : World} (h : laidMetH Tryd.prog Rows.wrapOpensRow.laid W) : Av.SatE (fun _ => none) ⟨.arr 64 .cell, .u32s Av.K256, false⟩ ⟨1, 0, 64, .arr 64 .cell⟩ W := by
  rw [MakeChecks.laidMetH_plain _ _ _ (by kernel_rfl)] at h
  have hr := Lib.laidMet.reads h (n := "reliquary/reliquaryref03.k") (d := Rows.laid_reliquary_reliquaryref03_k) (by simp [Rows.wrapOpensRow])
  rw [WrapOpensR.laid2] at hr
  exact Av.sat_u32s (t := 118) (e := 105) (by kernel_rfl) (by kernel_rfl) Tryd.underlying118 Tryd.underlying105 (by kernel_rfl) (by kernel_rfl) Av.K256_length hr

set_option maxRecDepth 100000 in
theorem wrapopens_lifted (os : Os) (started : os.Started) (H : Type) (enc : TypeId × Value → H) :
    ReturnsInHanded {} Tryd.checked os 6 .any (fun w args => (Rows.wrapOpensSpec.pre enc Tryd.prog Tryd.f6 Rows.wrapOpensRow.domain false w args ∧ laidMetH Tryd.prog Rows.wrapOpensRow.laid w) ∧ sizedMet enc Tryd.prog Tryd.f6 (OpenSpec.ofChange Rows.wrapOpensSpec) false w args)
      (Rows.wrapOpensSpec.post enc Tryd.prog Tryd.f6 false true false false) := by
  refine returnsInHanded_of_change_and (C := Tryd.checked) (X := fun w _ => laidMetH Tryd.prog Rows.wrapOpensRow.laid w) (fun _ _ _ hh h => h.of_heap hh) WrapOpensR.own started (by kernel_rfl) Tryd.func6
    (ChangeSpec.witness_shaped (enc := enc) (C := Tryd.checked) (os := os) (X := fun w _ => laidMetH Tryd.prog Rows.wrapOpensRow.laid w) false (World.laidAll Tryd.prog os Rows.wrapOpensRow.laid) #[.agg (List.replicate 32 (.int .u8 0)).toArray, .agg (List.replicate 32 (.int .u8 0)).toArray, .agg (List.replicate 32 (.int .u8 0)).toArray] 8 (World.laidAll_os _ _ _)
      (World.shaped_of_ZipB (by kernel_rfl) (by kernel_rfl)) (by kernel_rfl) (by kernel_rfl) (by kernel_rfl)
      (by rw [MakeChecks.laidMetH_plain _ _ _ (by kernel_rfl)]; exact laidMet_laidAll _ (by kernel_rfl) (by kernel_rfl))) ?_
  intro W base args ds gs before hval0 hW _ _ hL _
  have hval : ∀ (j : Nat) t v, Tryd.f6.params[j]? = some t → args[j]? = some v → Value.okWide Tryd.prog W .any base t v := hval0
  have hW' := hW
  obtain ⟨p, q, hA0, hV, rfl, _, _⟩ := hW
  have hA : DataW.TrodAll enc Tryd.prog W 0 (fun _ => true) true Tryd.f6.params.toList args.toList ds p := hA0
  rw [Tryd.params6] at hA hval
  obtain ⟨v0, v1, v2, d0, d1, d2, p0, p1, p2, rfl, rfl, rfl, h0, h1, h2⟩ := trodAll_three hA
  obtain ⟨rfl, rfl⟩ := trodVars_none hV
  obtain ⟨l0, hl0, rfl, hrep0, hstay0⟩ := Av.open_u8s Tryd.underlying23 Tryd.underlying5 (by kernel_rfl) (by kernel_rfl) (hval 0 23 v0 rfl rfl) h0
  obtain ⟨l1, hl1, rfl, hrep1, hstay1⟩ := Av.open_u8s Tryd.underlying23 Tryd.underlying5 (by kernel_rfl) (by kernel_rfl) (hval 1 23 v1 rfl rfl) h1
  obtain ⟨l2, hl2, rfl, hrep2, hstay2⟩ := Av.open_u8s Tryd.underlying42 Tryd.underlying5 (by kernel_rfl) (by kernel_rfl) (hval 2 42 v2 rfl rfl) h2
  clear hA0 hval0
  simp only [List.append_nil] at hW'
  refine (Av.calls_bool_m (Av.wrapopens_ac l0 l1 l2 hl0 hl1 hl2) (W := W) (vals := [v0, v1, v2]) ⟨hrep0 _, hrep1 _, hrep2 _, trivial⟩ ?_).mono fun e W' ⟨he, q1, q2, q3, q4⟩ => ?_
  · intro i e hi
    rw [Av.get_cons] at hi
    split at hi
    · rename_i hg; cases hi; exact ⟨rfl, 2, hg.symm, _, ⟨rfl, rfl⟩, WrapOpensR.sat0 hL⟩
    rw [Av.get_cons] at hi
    split at hi
    · rename_i hg; cases hi; exact ⟨rfl, 0, hg.symm, _, ⟨rfl, rfl⟩, WrapOpensR.sat1 hL⟩
    rw [Av.get_cons] at hi
    split at hi
    · rename_i hg; cases hi; exact ⟨rfl, 1, hg.symm, _, ⟨rfl, rfl⟩, WrapOpensR.sat2 hL⟩
    cases hi
  subst he
  exact ⟨_, rfl, Av.post_flat hW' (fun _ _ _ => trodAll_mk1 (shut_bool Tryd.underlying4 true)) (fun sp => (trodAll_cons_mk (hstay0 _ _ _ _) (trodAll_cons_mk (hstay1 _ _ _ _) (trodAll_mk1 (hstay2 _ _ _ _))))) (fun _ => rfl)
    (Av.kept_of_same q1 q2 q4 _)⟩

theorem wrapopens_holds : Rows.WrapOpensSaid :=
  OpenClaim.holds_of_wide 6 Tryd.f6 rfl rfl rfl rfl rfl rfl rfl ⟨rfl, rfl, rfl, rfl, rfl⟩ rfl rfl rfl rfl rfl (by kernel_rfl) Tryd.func6 (by kernel_rfl)
    (of_decide_eq_true (by kernel_rfl)) (by unfold Func.isWrapper; rw [if_neg (by decide +kernel)]; exact ⟨rfl, rfl⟩)
    (fun os started H enc _ => wrapopens_lifted os started H enc)

theorem wrapopens_card_holds : Rows.WrapOpensCardSaid :=
  Claim7.holds_tied_plain_at .later [] [.data, .data, .data] true (true, "192871fda26b039d4e11870829b0fb84508158fea38dce0d1f0733807df76226") false wrapopens_holds (fun _ h => by cases h) (by kernel_rfl) (fun _ h => by cases h) wrapOpens_row_tie rfl ⟨rfl, rfl⟩ (by kernel_rfl) rfl
    (fun f fn hf hfn => by
      obtain rfl : f = 6 := Option.some.inj ((show Tryd.prog.funcNamed "reliquary/reliquarylaw08.WrapOpens" = some 6 by kernel_rfl).symm.trans hf) |>.symm
      obtain rfl : fn = Tryd.f6 := (Option.some.inj (Tryd.func6.symm.trans hfn)).symm
      exact ⟨by kernel_rfl, fun j t ht => by
        rw [Tryd.params6] at ht
        have hm : t ∈ [23, 23, 42] := by simpa using Array.mem_of_getElem? ht
        have hall : ([23, 23, 42].all fun u => !Tryd.prog.wantsStandIn u) = true := by kernel_rfl
        exact (show Tryd.prog.wantsStandIn t = false by simpa using List.all_eq_true.1 hall t hm)⟩)
    (by kernel_rfl)
end Go.Proofs.YtljkjdhkofbgmaaDoor
