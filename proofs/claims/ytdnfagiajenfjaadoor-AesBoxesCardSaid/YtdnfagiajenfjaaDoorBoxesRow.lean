/- The box of any byte, and the way back, are as the document says: for every byte, with the document's box as the program's text lays it. -/
import Derived.Test.YtdnfagiajenfjaaDoorBoxes
import Derived.Test.YtdnfagiajenfjaaDoorRow
import Derived.Test.YtdnfagiajenfjaaDoorRows
import Derived.Test.YtdnfagiajenfjaaDoorTie
import Derived.Test.YtdnfagiajenfjaaDoorCards
import Derived.SevenTiedAt
namespace Go.Proofs.YtdnfagiajenfjaaDoor
open Go Go.Proofs Go.Proofs.YtdnfagiajenfjaaDoor Go.ChangeShapes Go.WideShapes Go.ChangeAt Go.RowKit
set_option linter.all false

theorem BoxesR.own : ownKnob Tryd.prog.godebug = none := by kernel_rfl

theorem box_laid : (Rows.laid_reliquary_reliquaryref06_Box : DataW Unit) = .agg (Av.boxL.map fun b => .lit (.int .u8 b.toNat)) := by kernel_rfl

theorem box_sat {W : World} (h : laidMetH Tryd.prog Rows.aesBoxesRow.laid W) : Av.SatE (fun _ => none) ⟨Av.t256, .u8s Av.boxL, false⟩ ⟨0, 0, 256, Av.t256⟩ W := by
  rw [MakeChecks.laidMetH_plain _ _ _ (by kernel_rfl)] at h
  have hr := Lib.laidMet.reads h (n := "reliquary/reliquaryref06.Box") (d := Rows.laid_reliquary_reliquaryref06_Box) (List.mem_singleton.2 rfl)
  rw [box_laid] at hr
  exact Av.sat_u8s (t := 35) (e := 5) (by kernel_rfl) (by kernel_rfl) Tryd.underlying35 Tryd.underlying5 (by kernel_rfl) (by kernel_rfl) Av.boxL_length hr

set_option maxRecDepth 100000 in
theorem boxes_lifted (os : Os) (started : os.Started) (H : Type) (enc : TypeId × Value → H) :
    ReturnsInHanded {} Tryd.checked os 5 .any (fun w args => (Rows.aesBoxesSpec.pre enc Tryd.prog Tryd.f5 Rows.aesBoxesRow.domain false w args ∧ laidMetH Tryd.prog Rows.aesBoxesRow.laid w) ∧ sizedMet enc Tryd.prog Tryd.f5 (OpenSpec.ofChange Rows.aesBoxesSpec) false w args)
      (Rows.aesBoxesSpec.post enc Tryd.prog Tryd.f5 false true false false) := by
  refine returnsInHanded_of_change_and (C := Tryd.checked) (X := fun w _ => laidMetH Tryd.prog Rows.aesBoxesRow.laid w) (fun _ _ _ hh h => h.of_heap hh) BoxesR.own started (by kernel_rfl) Tryd.func5
    (ChangeSpec.witness_shaped (enc := enc) (C := Tryd.checked) (os := os) (X := fun w _ => laidMetH Tryd.prog Rows.aesBoxesRow.laid w) false (World.laidAll Tryd.prog os Rows.aesBoxesRow.laid) #[.int .u8 0] 8 (World.laidAll_os _ _ _)
      (World.shaped_of_ZipB (by kernel_rfl) (by kernel_rfl)) (by kernel_rfl) (by kernel_rfl) (by kernel_rfl)
      (by rw [MakeChecks.laidMetH_plain _ _ _ (by kernel_rfl)]; exact laidMet_laidAll _ (by kernel_rfl) (by kernel_rfl))) ?_
  intro W base args ds gs before hval0 hW _ _ hL _
  have hval : ∀ (j : Nat) t v, Tryd.f5.params[j]? = some t → args[j]? = some v → Value.okWide Tryd.prog W .any base t v := hval0
  have hW' := hW
  obtain ⟨p, q, hA0, hV, rfl, _, _⟩ := hW
  have hA : DataW.TrodAll enc Tryd.prog W 0 (fun _ => true) true Tryd.f5.params.toList args.toList ds p := hA0
  rw [Tryd.params5] at hA hval
  obtain ⟨v0, d0, rfl, rfl, h0⟩ := trodAll_one hA
  obtain ⟨rfl, rfl⟩ := trodVars_none hV
  obtain ⟨a, rfl, rfl, rfl, wa⟩ := open_int Tryd.underlying5 (hval 0 5 v0 rfl rfl) h0
  clear hA0 hval0
  simp only [List.append_nil] at hW'
  refine (Av.calls_bool_g 0 (Av.boxes_ac (BitVec.ofNat 8 a.toNat)) (W := W) (vals := [.int .u8 a]) ⟨Av.rep_u8 wa, trivial⟩ ⟨rfl, rfl⟩ (box_sat hL)).mono fun e W' ⟨he, q1, q2, q3, q4⟩ => ?_
  subst he
  exact ⟨_, rfl, Av.post_flat hW' (fun _ _ _ => trodAll_mk1 (shut_bool Tryd.underlying4 true)) (fun sp => trodAll_mk1 (shut_int Tryd.underlying5 wa)) (fun _ => rfl)
    (Av.kept_of_same q1 q2 q4 _)⟩

theorem boxes_holds : Rows.AesBoxesSaid :=
  OpenClaim.holds_of_wide 5 Tryd.f5 rfl rfl rfl rfl rfl rfl rfl ⟨rfl, rfl, rfl, rfl, rfl⟩ rfl rfl rfl rfl rfl (by kernel_rfl) Tryd.func5 (by kernel_rfl)
    (of_decide_eq_true (by kernel_rfl)) (by unfold Func.isWrapper; rw [if_neg (by decide +kernel)]; exact ⟨rfl, rfl⟩)
    (fun os started H enc _ => boxes_lifted os started H enc)

theorem boxes_card_holds : Rows.AesBoxesCardSaid :=
  Claim7.holds_tied_plain_at .later [] [.data] true (true, "cb0b74ad405b9c3f2abcbbc390c4f8959911cfb108a65d597c65efb03652b823") false boxes_holds (fun _ h => by cases h) (by kernel_rfl) (fun _ h => by cases h) aesBoxes_row_tie rfl ⟨rfl, rfl⟩ (by kernel_rfl) rfl
    (fun f fn hf hfn => by
      obtain rfl : f = 5 := Option.some.inj ((show Tryd.prog.funcNamed "reliquary/reliquarylaw06.AesBoxes" = some 5 by kernel_rfl).symm.trans hf) |>.symm
      obtain rfl : fn = Tryd.f5 := (Option.some.inj (Tryd.func5.symm.trans hfn)).symm
      exact ⟨by kernel_rfl, fun j t ht => by
        rw [Tryd.params5] at ht
        have hm : t ∈ [5] := by simpa using Array.mem_of_getElem? ht
        have hall : ([5].all fun u => !Tryd.prog.wantsStandIn u) = true := by kernel_rfl
        exact (show Tryd.prog.wantsStandIn t = false by simpa using List.all_eq_true.1 hall t hm)⟩)
    (by kernel_rfl)
end Go.Proofs.YtdnfagiajenfjaaDoor
