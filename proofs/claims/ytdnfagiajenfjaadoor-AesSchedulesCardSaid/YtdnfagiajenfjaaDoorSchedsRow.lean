/- Any key has the round keys that the document says: for every key, with the document's box as the program's text lays it. -/
import Derived.Test.YtdnfagiajenfjaaDoorScheds
import Derived.Test.YtdnfagiajenfjaaDoorRow
import Derived.Test.YtdnfagiajenfjaaDoorRows
import Derived.Test.YtdnfagiajenfjaaDoorTie
import Derived.Test.YtdnfagiajenfjaaDoorCards
import Derived.SevenTiedAt
namespace Go.Proofs.YtdnfagiajenfjaaDoor
open Go Go.Proofs Go.Proofs.YtdnfagiajenfjaaDoor Go.ChangeShapes Go.WideShapes Go.ChangeAt Go.RowKit
set_option linter.all false

theorem SchedsR.own : ownKnob Tryd.prog.godebug = none := by kernel_rfl

theorem box_laid : (Rows.laid_reliquary_reliquaryref06_Box : DataW Unit) = .agg (Av.boxL.map fun b => .lit (.int .u8 b.toNat)) := by kernel_rfl

theorem box_sat {W : World} (h : laidMetH Tryd.prog Rows.aesSchedulesRow.laid W) : Av.SatE (fun _ => none) ⟨Av.t256, .u8s Av.boxL, false⟩ ⟨0, 0, 256, Av.t256⟩ W := by
  rw [MakeChecks.laidMetH_plain _ _ _ (by kernel_rfl)] at h
  have hr := Lib.laidMet.reads h (n := "reliquary/reliquaryref06.Box") (d := Rows.laid_reliquary_reliquaryref06_Box) (List.mem_singleton.2 rfl)
  rw [box_laid] at hr
  exact Av.sat_u8s (t := 35) (e := 5) (by kernel_rfl) (by kernel_rfl) Tryd.underlying35 Tryd.underlying5 (by kernel_rfl) (by kernel_rfl) Av.boxL_length hr

set_option maxRecDepth 100000 in
theorem scheds_lifted (os : Os) (started : os.Started) (H : Type) (enc : TypeId × Value → H) :
    ReturnsInHanded {} Tryd.checked os 3 .any (fun w args => (Rows.aesSchedulesSpec.pre enc Tryd.prog Tryd.f3 Rows.aesSchedulesRow.domain false w args ∧ laidMetH Tryd.prog Rows.aesSchedulesRow.laid w) ∧ sizedMet enc Tryd.prog Tryd.f3 (OpenSpec.ofChange Rows.aesSchedulesSpec) false w args)
      (Rows.aesSchedulesSpec.post enc Tryd.prog Tryd.f3 false true false false) := by
  refine returnsInHanded_of_change_and (C := Tryd.checked) (X := fun w _ => laidMetH Tryd.prog Rows.aesSchedulesRow.laid w) (fun _ _ _ hh h => h.of_heap hh) SchedsR.own started (by kernel_rfl) Tryd.func3
    (ChangeSpec.witness_shaped (enc := enc) (C := Tryd.checked) (os := os) (X := fun w _ => laidMetH Tryd.prog Rows.aesSchedulesRow.laid w) false (World.laidAll Tryd.prog os Rows.aesSchedulesRow.laid) #[.agg (List.replicate 32 (.int .u8 0)).toArray] 8 (World.laidAll_os _ _ _)
      (World.shaped_of_ZipB (by kernel_rfl) (by kernel_rfl)) (by kernel_rfl) (by kernel_rfl) (by kernel_rfl)
      (by rw [MakeChecks.laidMetH_plain _ _ _ (by kernel_rfl)]; exact laidMet_laidAll _ (by kernel_rfl) (by kernel_rfl))) ?_
  intro W base args ds gs before hval0 hW _ _ hL _
  have hval : ∀ (j : Nat) t v, Tryd.f3.params[j]? = some t → args[j]? = some v → Value.okWide Tryd.prog W .any base t v := hval0
  have hW' := hW
  obtain ⟨p, q, hA0, hV, rfl, _, _⟩ := hW
  have hA : DataW.TrodAll enc Tryd.prog W 0 (fun _ => true) true Tryd.f3.params.toList args.toList ds p := hA0
  rw [Tryd.params3] at hA hval
  obtain ⟨v0, d0, rfl, rfl, h0⟩ := trodAll_one hA
  obtain ⟨rfl, rfl⟩ := trodVars_none hV
  obtain ⟨l, hl, rfl, hrep, hstay⟩ := Av.open_u8s Tryd.underlying23 Tryd.underlying5 (by kernel_rfl) (by kernel_rfl) (hval 0 23 v0 rfl rfl) h0
  clear hA0 hval0
  simp only [List.append_nil] at hW'
  refine (Av.calls_bool_g 0 (Av.scheds_ac l hl) (W := W) (vals := [v0]) ⟨hrep _, trivial⟩ ⟨rfl, rfl⟩ (box_sat hL)).mono fun e W' ⟨he, h1, h2, h3, h4⟩ => ?_
  subst he
  exact ⟨_, rfl, Av.post_flat hW' (fun _ _ _ => trodAll_mk1 (shut_bool Tryd.underlying4 true)) (fun sp => trodAll_mk1 (hstay _ _ _ _)) (fun _ => rfl)
    (Av.kept_of_same h1 h2 h4 _)⟩

theorem scheds_holds : Rows.AesSchedulesSaid :=
  OpenClaim.holds_of_wide 3 Tryd.f3 rfl rfl rfl rfl rfl rfl rfl ⟨rfl, rfl, rfl, rfl, rfl⟩ rfl rfl rfl rfl rfl (by kernel_rfl) Tryd.func3 (by kernel_rfl)
    (of_decide_eq_true (by kernel_rfl)) (by unfold Func.isWrapper; rw [if_neg (by decide +kernel)]; exact ⟨rfl, rfl⟩)
    (fun os started H enc _ => scheds_lifted os started H enc)

theorem scheds_card_holds : Rows.AesSchedulesCardSaid :=
  Claim7.holds_tied_plain_at .later [] [.data] true (true, "cb0b74ad405b9c3f2abcbbc390c4f8959911cfb108a65d597c65efb03652b823") false scheds_holds (fun _ h => by cases h) (by kernel_rfl) (fun _ h => by cases h) aesSchedules_row_tie rfl ⟨rfl, rfl⟩ (by kernel_rfl) rfl
    (fun f fn hf hfn => by
      obtain rfl : f = 3 := Option.some.inj ((show Tryd.prog.funcNamed "reliquary/reliquarylaw06.AesSchedules" = some 3 by kernel_rfl).symm.trans hf) |>.symm
      obtain rfl : fn = Tryd.f3 := (Option.some.inj (Tryd.func3.symm.trans hfn)).symm
      exact ⟨by kernel_rfl, fun j t ht => by
        rw [Tryd.params3] at ht
        have hm : t ∈ [23] := by simpa using Array.mem_of_getElem? ht
        have hall : ([23].all fun u => !Tryd.prog.wantsStandIn u) = true := by kernel_rfl
        exact (show Tryd.prog.wantsStandIn t = false by simpa using List.all_eq_true.1 hall t hm)⟩)
    (by kernel_rfl)
end Go.Proofs.YtdnfagiajenfjaaDoor
