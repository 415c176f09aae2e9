/- Any bytes are the table that the document says, or none: for every row of bytes, with the constants of the sums as the program's texts lay them. -/
import Derived.Test.YtodkhgofmgaafaaDoorM7
import Derived.Test.YtodkhgofmgaafaaDoorRows
import Derived.Test.YtodkhgofmgaafaaDoorTie
import Derived.Test.YtodkhgofmgaafaaDoorCards
import Derived.SevenTiedAt
import Derived.SizedLaws
namespace Go.Proofs.YtodkhgofmgaafaaDoor
open Go Go.Proofs Go.Proofs.YtodkhgofmgaafaaDoor Go.ChangeShapes Go.WideShapes Go.ChangeAt Go.RowKit
set_option linter.all false
set_option maxRecDepth 3000

theorem SlotsGetsR.own : ownKnob Tryd.prog.godebug = none := by kernel_rfl

theorem SlotsGetsR.laid0 : (Rows.laid_reliquary_sha_roots : DataW Unit) = .agg (Av.K256.map fun b => .lit (.int .u32 b.toNat)) := by kernel_rfl

theorem SlotsGetsR.sat0 {W : World} (h : laidMetH Tryd.prog Rows.slotsGetsRow.laid W) : Av.SatE (fun _ => none) ⟨.arr 64 .cell, .u32s Av.K256, false⟩ ⟨2, 0, 64, .arr 64 .cell⟩ W := by
  rw [MakeChecks.laidMetH_plain _ _ _ (by kernel_rfl)] at h
  have hr := Lib.laidMet.reads h (n := "reliquary/sha.roots") (d := Rows.laid_reliquary_sha_roots) (by simp [Rows.slotsGetsRow])
  rw [SlotsGetsR.laid0] at hr
  exact Av.sat_u32s (t := 196) (e := 73) (by kernel_rfl) (by kernel_rfl) Tryd.underlying196 Tryd.underlying73 (by kernel_rfl) (by kernel_rfl) Av.K256_length hr

set_option maxRecDepth 100000 in
theorem slotsgets_lifted (os : Os) (started : os.Started) (H : Type) (enc : TypeId × Value → H) :
    ReturnsInHanded {} Tryd.checked os 7 .any (fun w args => (Rows.slotsGetsSpec.pre enc Tryd.prog Tryd.f7 Rows.slotsGetsRow.domain false w args ∧ laidMetH Tryd.prog Rows.slotsGetsRow.laid w) ∧ sizedMet enc Tryd.prog Tryd.f7 (OpenSpec.ofChange Rows.slotsGetsSpec) false w args)
      (Rows.slotsGetsSpec.post enc Tryd.prog Tryd.f7 false true false false) := by
  refine returnsInHanded_of_change_and (C := Tryd.checked) (X := fun w _ => laidMetH Tryd.prog Rows.slotsGetsRow.laid w) (fun _ _ _ hh h => h.of_heap hh) SlotsGetsR.own started (by kernel_rfl) Tryd.func7
    (ChangeSpec.witness_shaped (enc := enc) (C := Tryd.checked) (os := os) (X := fun w _ => laidMetH Tryd.prog Rows.slotsGetsRow.laid w) false (World.laidAll Tryd.prog os Rows.slotsGetsRow.laid) #[.slice none 0 0] 8 (World.laidAll_os _ _ _)
      (World.shaped_of_ZipB (by kernel_rfl) (by kernel_rfl)) (by kernel_rfl) (by kernel_rfl) (by kernel_rfl)
      (by rw [MakeChecks.laidMetH_plain _ _ _ (by kernel_rfl)]; exact laidMet_laidAll _ (by kernel_rfl) (by kernel_rfl))) ?_
  intro W base args ds gs before hval0 hW _ hsz hL _
  have hval : ∀ (j : Nat) t v, Tryd.f7.params[j]? = some t → args[j]? = some v → Value.okWide Tryd.prog W .any base t v := hval0
  have hW' := hW
  obtain ⟨p, q, hA0, hV, rfl, _, _⟩ := hW
  have hA : DataW.TrodAll enc Tryd.prog W 0 (fun _ => true) true Tryd.f7.params.toList args.toList ds p := hA0
  rw [Tryd.params7] at hA hval hsz
  obtain ⟨v0, d0, rfl, rfl, h0⟩ := trodAll_one hA
  obtain ⟨rfl, rfl⟩ := trodVars_none hV
  obtain ⟨l0, L0, x0, hx0, hs0, hr0, hst0, hes0⟩ := Av.open_slD2 Tryd.underlying31 Tryd.underlying5 (by kernel_rfl) (Av.sat_none (SlotsGetsR.sat0 hL)) (hval 0 31 v0 rfl rfl) h0
  have hlen : l0.length ≤ 140737488355328 := by
    rcases hes0 with h | ⟨es, sp0, hd2, hes⟩
    · omega
    · subst hd2
      have := sized_slice hsz (j := 0) (t := 31) (e := 5) (elems := es) (spare := sp0) rfl rfl Tryd.underlying31
      rw [show Tryd.checked.prog.bytesOf 5 = 1 by kernel_rfl, hes] at this
      have h2 := reachBytes_lt
      omega
  clear hA0 hval0
  simp only [List.append_nil] at hW'
  refine (Av.calls_bool_n (np := 1) (by decide) (Av.slotsgets_ac l0 l0.length x0 rfl hx0 hlen) (W := W) (loc := fun _ => L0) (vals := [v0]) ⟨hr0 _ 0 rfl, trivial⟩ (fun i e hi => ?_)).mono fun e W' ⟨he, q1, q2, q3, q4⟩ => ?_
  · rw [Av.get_cons] at hi
    split at hi
    · rename_i hg; cases hi; subst hg; exact ⟨rfl, .inl ⟨by decide, hs0⟩⟩
    rw [Av.get_cons] at hi
    split at hi
    · rename_i hg; cases hi; exact ⟨rfl, .inr ⟨_, hg.symm, _, ⟨rfl, rfl⟩, SlotsGetsR.sat0 hL⟩⟩
    cases hi
  subst he
  exact ⟨_, rfl, Av.post_places hW' (fun _ _ _ => trodAll_mk1 (shut_bool Tryd.underlying4 true))
    (fun sp hsp => trodAll_mk1 (hst0 W' sp q4 hsp)) (fun _ => rfl)
    (Av.kept_of_same q1 q2 q4 _)⟩

theorem slotsgets_holds : Rows.SlotsGetsSaid :=
  OpenClaim.holds_of_wide 7 Tryd.f7 rfl rfl rfl rfl rfl rfl rfl ⟨rfl, rfl, rfl, rfl, rfl⟩ rfl rfl rfl rfl rfl (by kernel_rfl) Tryd.func7 (by kernel_rfl)
    (of_decide_eq_true (by kernel_rfl)) (by unfold Func.isWrapper; rw [if_neg (by decide +kernel)]; exact ⟨rfl, rfl⟩)
    (fun os started H enc _ => slotsgets_lifted os started H enc)

theorem slotsgets_card_holds : Rows.SlotsGetsCardSaid :=
  Claim7.holds_tied_plain_at .later [] [.data] true (true, "f4e0c4aff804dd3c7e9e594ea7ca439caaff57e065a2579307a23311c8ac6e21") false slotsgets_holds (fun _ h => by cases h) (by kernel_rfl) (fun _ h => by cases h) slotsGets_row_tie rfl ⟨rfl, rfl⟩ (by kernel_rfl) rfl
    (fun f fn hf hfn => by
      obtain rfl : f = 7 := Option.some.inj ((show Tryd.prog.funcNamed "reliquary/reliquarylaw12.SlotsGets" = some 7 by kernel_rfl).symm.trans hf) |>.symm
      obtain rfl : fn = Tryd.f7 := (Option.some.inj (Tryd.func7.symm.trans hfn)).symm
      exact ⟨by kernel_rfl, fun j t ht => by
        rw [Tryd.params7] at ht
        have hm : t ∈ [31] := by simpa using Array.mem_of_getElem? ht
        have hall : ([31].all fun u => !Tryd.prog.wantsStandIn u) = true := by kernel_rfl
        exact (show Tryd.prog.wantsStandIn t = false by simpa using List.all_eq_true.1 hall t hm)⟩)
    (by kernel_rfl)
end Go.Proofs.YtodkhgofmgaafaaDoor
