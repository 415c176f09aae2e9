/- Any sixteen bytes are decrypted with any key as the document says, and no cipher answers nothing: for every key and every block, with the document's box as the program's text lays it. -/
import Derived.Test.YtdnfagiajenfjaaDoorDecs
import Derived.Test.YtdnfagiajenfjaaDoorRow
import Derived.Test.YtdnfagiajenfjaaDoorRows
import Derived.Test.YtdnfagiajenfjaaDoorTie
import Derived.Test.YtdnfagiajenfjaaDoorCards
import Derived.SevenTiedAt
namespace Go.Proofs.YtdnfagiajenfjaaDoor
open Go Go.Proofs Go.Proofs.YtdnfagiajenfjaaDoor Go.ChangeShapes Go.WideShapes Go.ChangeAt Go.RowKit
set_option linter.all false

theorem DecsR.own : ownKnob Tryd.prog.godebug = none := by kernel_rfl

theorem box_laid : (Rows.laid_reliquary_reliquaryref06_Box : DataW Unit) = .agg (Av.boxL.map fun b => .lit (.int .u8 b.toNat)) := by kernel_rfl

theorem box_sat {W : World} (h : laidMetH Tryd.prog Rows.aesDecryptsRow.laid W) : Av.SatE (fun _ => none) ⟨Av.t256, .u8s Av.boxL, false⟩ ⟨0, 0, 256, Av.t256⟩ W := by
  rw [MakeChecks.laidMetH_plain _ _ _ (by kernel_rfl)] at h
  have hr := Lib.laidMet.reads h (n := "reliquary/reliquaryref06.Box") (d := Rows.laid_reliquary_reliquaryref06_Box) (List.mem_singleton.2 rfl)
  rw [box_laid] at hr
  exact Av.sat_u8s (t := 35) (e := 5) (by kernel_rfl) (by kernel_rfl) Tryd.underlying35 Tryd.underlying5 (by kernel_rfl) (by kernel_rfl) Av.boxL_length hr

set_option maxRecDepth 100000 in
theorem decs_lifted (os : Os) (started : os.Started) (H : Type) (enc : TypeId × Value → H) :
    ReturnsInHanded {} Tryd.checked os 6 .any (fun w args => (Rows.aesDecryptsSpec.pre enc Tryd.prog Tryd.f6 Rows.aesDecryptsRow.domain false w args ∧ laidMetH Tryd.prog Rows.aesDecryptsRow.laid w) ∧ sizedMet enc Tryd.prog Tryd.f6 (OpenSpec.ofChange Rows.aesDecryptsSpec) false w args)
      (Rows.aesDecryptsSpec.post enc Tryd.prog Tryd.f6 false true false false) := by
  refine returnsInHanded_of_change_and (C := Tryd.checked) (X := fun w _ => laidMetH Tryd.prog Rows.aesDecryptsRow.laid w) (fun _ _ _ hh h => h.of_heap hh) DecsR.own started (by kernel_rfl) Tryd.func6
    (ChangeSpec.witness_shaped (enc := enc) (C := Tryd.checked) (os := os) (X := fun w _ => laidMetH Tryd.prog Rows.aesDecryptsRow.laid w) false (World.laidAll Tryd.prog os Rows.aesDecryptsRow.laid) #[.agg (List.replicate 32 (.int .u8 0)).toArray, .agg (List.replicate 16 (.int .u8 0)).toArray] 8 (World.laidAll_os _ _ _)
      (World.shaped_of_ZipB (by kernel_rfl) (by kernel_rfl)) (by kernel_rfl) (by kernel_rfl) (by kernel_rfl)
      (by rw [MakeChecks.laidMetH_plain _ _ _ (by kernel_rfl)]; exact laidMet_laidAll _ (by kernel_rfl) (by kernel_rfl))) ?_
  intro W base args ds gs before hval0 hW _ _ hL _
  have hval : ∀ (j : Nat) t v, Tryd.f6.params[j]? = some t → args[j]? = some v → Value.okWide Tryd.prog W .any base t v := hval0
  have hW' := hW
  obtain ⟨p, q, hA0, hV, rfl, _, _⟩ := hW
  have hA : DataW.TrodAll enc Tryd.prog W 0 (fun _ => true) true Tryd.f6.params.toList args.toList ds p := hA0
  rw [Tryd.params6] at hA hval
  obtain ⟨v0, v1, d0, d1, p0, p1, rfl, rfl, rfl, h0, h1⟩ := trodAll_two hA
  obtain ⟨rfl, rfl⟩ := trodVars_none hV
  obtain ⟨l0, hl0, rfl, hrep0, hstay0⟩ := Av.open_u8s Tryd.underlying23 Tryd.underlying5 (by kernel_rfl) (by kernel_rfl) (hval 0 23 v0 rfl rfl) h0
  obtain ⟨l1, hl1, rfl, hrep1, hstay1⟩ := Av.open_u8s Tryd.underlying24 Tryd.underlying5 (by kernel_rfl) (by kernel_rfl) (hval 1 24 v1 rfl rfl) h1
  clear hA0 hval0
  simp only [List.append_nil] at hW'
  refine (Av.calls_bool_g 0 (Av.decs_ac l0 l1 hl0 hl1) (W := W) (vals := [v0, v1]) ⟨hrep0 _, hrep1 _, trivial⟩ ⟨rfl, rfl⟩ (box_sat hL)).mono fun e W' ⟨he, q1, q2, q3, q4⟩ => ?_
  subst he
  exact ⟨_, rfl, Av.post_flat hW' (fun _ _ _ => trodAll_mk1 (shut_bool Tryd.underlying4 true)) (fun sp => trodAll_cons_mk (hstay0 _ _ _ _) (trodAll_mk1 (hstay1 _ _ _ _))) (fun _ => rfl)
    (Av.kept_of_same q1 q2 q4 _)⟩

theorem decs_holds : Rows.AesDecryptsSaid :=
  OpenClaim.holds_of_wide 6 Tryd.f6 rfl rfl rfl rfl rfl rfl rfl ⟨rfl, rfl, rfl, rfl, rfl⟩ rfl rfl rfl rfl rfl (by kernel_rfl) Tryd.func6 (by kernel_rfl)
    (of_decide_eq_true (by kernel_rfl)) (by unfold Func.isWrapper; rw [if_neg (by decide +kernel)]; exact ⟨rfl, rfl⟩)
    (fun os started H enc _ => decs_lifted os started H enc)

theorem decs_card_holds : Rows.AesDecryptsCardSaid :=
  Claim7.holds_tied_plain_at .later [] [.data] true (true, "cb0b74ad405b9c3f2abcbbc390c4f8959911cfb108a65d597c65efb03652b823") false decs_holds (fun _ h => by cases h) (by kernel_rfl) (fun _ h => by cases h) aesDecrypts_row_tie rfl ⟨rfl, rfl⟩ (by kernel_rfl) rfl
    (fun f fn hf hfn => by
      obtain rfl : f = 6 := Option.some.inj ((show Tryd.prog.funcNamed "reliquary/reliquarylaw06.AesDecrypts" = some 6 by kernel_rfl).symm.trans hf) |>.symm
      obtain rfl : fn = Tryd.f6 := (Option.some.inj (Tryd.func6.symm.trans hfn)).symm
      exact ⟨by kernel_rfl, fun j t ht => by
        rw [Tryd.params6] at ht
        have hm : t ∈ [23, 24] := by simpa using Array.mem_of_getElem? ht
        have hall : ([23, 24].all fun u => !Tryd.prog.wantsStandIn u) = true := by kernel_rfl
        exact (show Tryd.prog.wantsStandIn t = false by simpa using List.all_eq_true.1 hall t hm)⟩)
    (by kernel_rfl)
end Go.Proofs.YtdnfagiajenfjaaDoor
