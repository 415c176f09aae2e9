/- With another check than the right one nothing is opened; nor by another key, or of another sealed key, but where that has the very same check: for every three keys, every place and every turn, with the constants of the sums as the program's text lays them. -/
import Derived.Test.YtljkjdhkofbgmaaDoorWrapOwn
import Derived.Test.YtljkjdhkofbgmaaDoorRowG
import Derived.Test.YtljkjdhkofbgmaaDoorRows
import Derived.Test.YtljkjdhkofbgmaaDoorTie
import Derived.Test.YtljkjdhkofbgmaaDoorCards
import Derived.SevenTiedAt
namespace Go.Proofs.YtljkjdhkofbgmaaDoor
open Go Go.Proofs Go.Proofs.YtljkjdhkofbgmaaDoor Go.ChangeShapes Go.WideShapes Go.ChangeAt Go.RowKit
set_option linter.all false
set_option maxRecDepth 3000

theorem WrapTurnedR.own : ownKnob Tryd.prog.godebug = none := by kernel_rfl

theorem WrapTurnedR.laid0 : (Rows.laid_reliquary_sha_roots : DataW Unit) = .agg (Av.K256.map fun b => .lit (.int .u32 b.toNat)) := by kernel_rfl

theorem WrapTurnedR.sat0 {W : World} (h : laidMetH Tryd.prog Rows.wrapTurnedRow.laid W) : Av.SatE (fun _ => none) ⟨.arr 64 .cell, .u32s Av.K256, false⟩ ⟨2, 0, 64, .arr 64 .cell⟩ W := by
  rw [MakeChecks.laidMetH_plain _ _ _ (by kernel_rfl)] at h
  have hr := Lib.laidMet.reads h (n := "reliquary/sha.roots") (d := Rows.laid_reliquary_sha_roots) (List.mem_singleton.2 rfl)
  rw [WrapTurnedR.laid0] at hr
  exact Av.sat_u32s (t := 118) (e := 105) (by kernel_rfl) (by kernel_rfl) Tryd.underlying118 Tryd.underlying105 (by kernel_rfl) (by kernel_rfl) Av.K256_length hr

set_option maxRecDepth 100000 in
theorem wrapturned_lifted (os : Os) (started : os.Started) (H : Type) (enc : TypeId × Value → H) :
    ReturnsInHanded {} Tryd.checked os 8 .any (fun w args => (Rows.wrapTurnedSpec.pre enc Tryd.prog Tryd.f8 Rows.wrapTurnedRow.domain false w args ∧ laidMetH Tryd.prog Rows.wrapTurnedRow.laid w) ∧ sizedMet enc Tryd.prog Tryd.f8 (OpenSpec.ofChange Rows.wrapTurnedSpec) false w args)
      (Rows.wrapTurnedSpec.post enc Tryd.prog Tryd.f8 false true false false) := by
  refine returnsInHanded_of_change_and (C := Tryd.checked) (X := fun w _ => laidMetH Tryd.prog Rows.wrapTurnedRow.laid w) (fun _ _ _ hh h => h.of_heap hh) WrapTurnedR.own started (by kernel_rfl) Tryd.func8
    (ChangeSpec.witness_shaped (enc := enc) (C := Tryd.checked) (os := os) (X := fun w _ => laidMetH Tryd.prog Rows.wrapTurnedRow.laid w) false (World.laidAll Tryd.prog os Rows.wrapTurnedRow.laid) #[.agg (List.replicate 96 (.int .u8 0)).toArray, .int .u8 0, .int .u8 0] 8 (World.laidAll_os _ _ _)
      (World.shaped_of_ZipB (by kernel_rfl) (by kernel_rfl)) (by kernel_rfl) (by kernel_rfl) (by kernel_rfl)
      (by rw [MakeChecks.laidMetH_plain _ _ _ (by kernel_rfl)]; exact laidMet_laidAll _ (by kernel_rfl) (by kernel_rfl))) ?_
  intro W base args ds gs before hval0 hW _ _ hL _
  have hval : ∀ (j : Nat) t v, Tryd.f8.params[j]? = some t → args[j]? = some v → Value.okWide Tryd.prog W .any base t v := hval0
  have hW' := hW
  obtain ⟨p, q, hA0, hV, rfl, _, _⟩ := hW
  have hA : DataW.TrodAll enc Tryd.prog W 0 (fun _ => true) true Tryd.f8.params.toList args.toList ds p := hA0
  rw [Tryd.params8] at hA hval
  obtain ⟨v0, v1, v2, d0, d1, d2, p0, p1, p2, rfl, rfl, rfl, h0, h1, h2⟩ := trodAll_three hA
  obtain ⟨rfl, rfl⟩ := trodVars_none hV
  obtain ⟨l0a, l0b, l0c, hl0a, hl0b, hl0c, rfl, hrep0, hstay0⟩ := Av.open_triple Tryd.underlying53 Tryd.underlying23 Tryd.underlying5 (by kernel_rfl) (by kernel_rfl) (by kernel_rfl) (hval 0 53 v0 rfl rfl) h0
  obtain ⟨n1, rfl, rfl, rfl, wn1⟩ := open_int Tryd.underlying5 (hval 1 5 v1 rfl rfl) h1
  obtain ⟨n2, rfl, rfl, rfl, wn2⟩ := open_int Tryd.underlying5 (hval 2 5 v2 rfl rfl) h2
  clear hA0 hval0
  simp only [List.append_nil] at hW'
  refine (Av.calls_bool_m (Av.wrapturned_ac l0a l0b l0c (BitVec.ofNat 8 n1.toNat) (BitVec.ofNat 8 n2.toNat) hl0a hl0b hl0c) (W := W) (vals := [v0, .int .u8 n1, .int .u8 n2]) ⟨hrep0 _, Av.rep_u8 wn1, Av.rep_u8 wn2, trivial⟩ ?_).mono fun e W' ⟨he, q1, q2, q3, q4⟩ => ?_
  · intro i e hi
    rw [Av.get_cons] at hi
    split at hi
    · rename_i hg; cases hi; exact ⟨rfl, 2, hg.symm, _, ⟨rfl, rfl⟩, WrapTurnedR.sat0 hL⟩
    cases hi
  subst he
  exact ⟨_, rfl, Av.post_flat hW' (fun _ _ _ => trodAll_mk1 (shut_bool Tryd.underlying4 true)) (fun sp => (trodAll_cons_mk (hstay0 _ _ _ _) (trodAll_cons_mk (shut_int Tryd.underlying5 wn1) (trodAll_mk1 (shut_int Tryd.underlying5 wn2))))) (fun _ => rfl)
    (Av.kept_of_same q1 q2 q4 _)⟩

theorem wrapturned_holds : Rows.WrapTurnedSaid :=
  OpenClaim.holds_of_wide 8 Tryd.f8 rfl rfl rfl rfl rfl rfl rfl ⟨rfl, rfl, rfl, rfl, rfl⟩ rfl rfl rfl rfl rfl (by kernel_rfl) Tryd.func8 (by kernel_rfl)
    (of_decide_eq_true (by kernel_rfl)) (by unfold Func.isWrapper; rw [if_neg (by decide +kernel)]; exact ⟨rfl, rfl⟩)
    (fun os started H enc _ => wrapturned_lifted os started H enc)

theorem wrapturned_card_holds : Rows.WrapTurnedCardSaid :=
  Claim7.holds_tied_plain_at .later [] [.data] true (true, "192871fda26b039d4e11870829b0fb84508158fea38dce0d1f0733807df76226") false wrapturned_holds (fun _ h => by cases h) (by kernel_rfl) (fun _ h => by cases h) wrapTurned_row_tie rfl ⟨rfl, rfl⟩ (by kernel_rfl) rfl
    (fun f fn hf hfn => by
      obtain rfl : f = 8 := Option.some.inj ((show Tryd.prog.funcNamed "reliquary/reliquarylaw08.WrapTurned" = some 8 by kernel_rfl).symm.trans hf) |>.symm
      obtain rfl : fn = Tryd.f8 := (Option.some.inj (Tryd.func8.symm.trans hfn)).symm
      exact ⟨by kernel_rfl, fun j t ht => by
        rw [Tryd.params8] at ht
        have hm : t ∈ [53, 5, 5] := by simpa using Array.mem_of_getElem? ht
        have hall : ([53, 5, 5].all fun u => !Tryd.prog.wantsStandIn u) = true := by kernel_rfl
        exact (show Tryd.prog.wantsStandIn t = false by simpa using List.all_eq_true.1 hall t hm)⟩)
    (by kernel_rfl)
end Go.Proofs.YtljkjdhkofbgmaaDoor
