/- Behind a rotation the new passphrase opens what the old one did, and the old one nothing, but where both make the same key: for every two rows of bytes and every number, with the constants of the sums and the box as the program's texts lay them. -/
import Derived.Test.YtodkhgofmgaafaaDoorM7
import Derived.Test.YtodkhgofmgaafaaDoorRows
import Derived.Test.YtodkhgofmgaafaaDoorTie
import Derived.Test.YtodkhgofmgaafaaDoorCards
import Derived.SevenTiedAt
import Derived.SizedLaws
namespace Go.Proofs.YtodkhgofmgaafaaDoor
open Go Go.Proofs Go.Proofs.YtodkhgofmgaafaaDoor Go.ChangeShapes Go.WideShapes Go.ChangeAt Go.RowKit
set_option linter.all false
set_option maxRecDepth 3000

theorem SlotsRotatesR.own : ownKnob Tryd.prog.godebug = none := by kernel_rfl

theorem SlotsRotatesR.laid0 : (Rows.laid_reliquary_sha_roots : DataW Unit) = .agg (Av.K256.map fun b => .lit (.int .u32 b.toNat)) := by kernel_rfl

theorem SlotsRotatesR.sat0 {W : World} (h : laidMetH Tryd.prog Rows.slotsRotatesRow.laid W) : Av.SatE (fun _ => none) ⟨.arr 64 .cell, .u32s Av.K256, false⟩ ⟨2, 0, 64, .arr 64 .cell⟩ W := by
  rw [MakeChecks.laidMetH_plain _ _ _ (by kernel_rfl)] at h
  have hr := Lib.laidMet.reads h (n := "reliquary/sha.roots") (d := Rows.laid_reliquary_sha_roots) (by simp [Rows.slotsRotatesRow])
  rw [SlotsRotatesR.laid0] at hr
  exact Av.sat_u32s (t := 196) (e := 73) (by kernel_rfl) (by kernel_rfl) Tryd.underlying196 Tryd.underlying73 (by kernel_rfl) (by kernel_rfl) Av.K256_length hr

theorem SlotsRotatesR.laid1 : (Rows.laid_reliquary_reliquaryref06_Box : DataW Unit) = .agg (Av.boxL.map fun b => .lit (.int .u8 b.toNat)) := by kernel_rfl

theorem SlotsRotatesR.sat1 {W : World} (h : laidMetH Tryd.prog Rows.slotsRotatesRow.laid W) : Av.SatE (fun _ => none) ⟨.arr 256 .cell, .u8s Av.boxL, false⟩ ⟨1, 0, 256, .arr 256 .cell⟩ W := by
  rw [MakeChecks.laidMetH_plain _ _ _ (by kernel_rfl)] at h
  have hr := Lib.laidMet.reads h (n := "reliquary/reliquaryref06.Box") (d := Rows.laid_reliquary_reliquaryref06_Box) (by simp [Rows.slotsRotatesRow])
  rw [SlotsRotatesR.laid1] at hr
  exact Av.sat_u8s (t := 211) (e := 5) (by kernel_rfl) (by kernel_rfl) Tryd.underlying211 Tryd.underlying5 (by kernel_rfl) (by kernel_rfl) Av.boxL_length hr

theorem SlotsRotatesR.laid2 : (Rows.laid_reliquary_reliquaryref03_k : DataW Unit) = .agg (Av.K256.map fun b => .lit (.int .u32 b.toNat)) := by kernel_rfl

theorem SlotsRotatesR.sat2 {W : World} (h : laidMetH Tryd.prog Rows.slotsRotatesRow.laid W) : Av.SatE (fun _ => none) ⟨.arr 64 .cell, .u32s Av.K256, false⟩ ⟨0, 0, 64, .arr 64 .cell⟩ W := by
  rw [MakeChecks.laidMetH_plain _ _ _ (by kernel_rfl)] at h
  have hr := Lib.laidMet.reads h (n := "reliquary/reliquaryref03.k") (d := Rows.laid_reliquary_reliquaryref03_k) (by simp [Rows.slotsRotatesRow])
  rw [SlotsRotatesR.laid2] at hr
  exact Av.sat_u32s (t := 196) (e := 73) (by kernel_rfl) (by kernel_rfl) Tryd.underlying196 Tryd.underlying73 (by kernel_rfl) (by kernel_rfl) Av.K256_length hr

set_option maxRecDepth 100000 in
theorem slotsrotates_lifted (os : Os) (started : os.Started) (H : Type) (enc : TypeId × Value → H) :
    ReturnsInHanded {} Tryd.checked os 5 .any (fun w args => (Rows.slotsRotatesSpec.pre enc Tryd.prog Tryd.f5 Rows.slotsRotatesRow.domain false w args ∧ laidMetH Tryd.prog Rows.slotsRotatesRow.laid w) ∧ sizedMet enc Tryd.prog Tryd.f5 (OpenSpec.ofChange Rows.slotsRotatesSpec) false w args)
      (Rows.slotsRotatesSpec.post enc Tryd.prog Tryd.f5 false true false false) := by
  refine returnsInHanded_of_change_and (C := Tryd.checked) (X := fun w _ => laidMetH Tryd.prog Rows.slotsRotatesRow.laid w) (fun _ _ _ hh h => h.of_heap hh) SlotsRotatesR.own started (by kernel_rfl) Tryd.func5
    (ChangeSpec.witness_shaped (enc := enc) (C := Tryd.checked) (os := os) (X := fun w _ => laidMetH Tryd.prog Rows.slotsRotatesRow.laid w) false (World.laidAll Tryd.prog os Rows.slotsRotatesRow.laid) #[.slice none 0 0, .slice none 0 0, .int .u8 0] 8 (World.laidAll_os _ _ _)
      (World.shaped_of_ZipB (by kernel_rfl) (by kernel_rfl)) (by kernel_rfl) (by kernel_rfl) (by kernel_rfl)
      (by rw [MakeChecks.laidMetH_plain _ _ _ (by kernel_rfl)]; exact laidMet_laidAll _ (by kernel_rfl) (by kernel_rfl))) ?_
  intro W base args ds gs before hval0 hW _ hsz hL _
  have hval : ∀ (j : Nat) t v, Tryd.f5.params[j]? = some t → args[j]? = some v → Value.okWide Tryd.prog W .any base t v := hval0
  have hW' := hW
  obtain ⟨p, q, hA0, hV, rfl, _, _⟩ := hW
  have hA : DataW.TrodAll enc Tryd.prog W 0 (fun _ => true) true Tryd.f5.params.toList args.toList ds p := hA0
  rw [Tryd.params5] at hA hval hsz
  obtain ⟨v0, v1, v2, d0, d1, d2, p0, p1, p2, rfl, rfl, rfl, h0, h1, h2⟩ := trodAll_three hA
  obtain ⟨rfl, rfl⟩ := trodVars_none hV
  obtain ⟨n, rfl, rfl, rfl, wn⟩ := open_int Tryd.underlying5 (hval 2 5 v2 rfl rfl) h2
  obtain ⟨l0, L0, x0, hx0, hs0, hr0, hst0⟩ := Av.open_slD Tryd.underlying31 Tryd.underlying5 (by kernel_rfl) (Av.sat_none (SlotsRotatesR.sat0 hL)) (hval 0 31 v0 rfl rfl) h0
  obtain ⟨l1, L1, x1, hx1, hs1, hr1, hst1⟩ := Av.open_slD Tryd.underlying31 Tryd.underlying5 (by kernel_rfl) (Av.sat_none (SlotsRotatesR.sat0 hL)) (hval 1 31 v1 rfl rfl) h1
  clear hA0 hval0
  simp only [List.append_nil] at hW'
  refine (Av.calls_bool_n (np := 2) (by decide) (Av.slotsrot_ac l0 l1 (BitVec.ofNat 8 n.toNat) l0.length l1.length x0 x1 rfl hx0 rfl hx1) (W := W) (loc := fun i => if i = 0 then L0 else L1) (vals := [v0, v1, .int .u8 n]) ⟨hr0 _ 0 rfl, hr1 _ 1 rfl, Av.rep_u8 wn, trivial⟩ (fun i e hi => ?_)).mono fun e W' ⟨he, q1, q2, q3, q4⟩ => ?_
  · rw [Av.get_cons] at hi
    split at hi
    · rename_i hg; cases hi; subst hg; exact ⟨rfl, .inl ⟨by decide, hs0⟩⟩
    rw [Av.get_cons] at hi
    split at hi
    · rename_i hg; cases hi; subst hg; exact ⟨rfl, .inl ⟨by decide, hs1⟩⟩
    rw [Av.get_cons] at hi
    split at hi
    · rename_i hg; cases hi; exact ⟨rfl, .inr ⟨_, hg.symm, _, ⟨rfl, rfl⟩, SlotsRotatesR.sat0 hL⟩⟩
    rw [Av.get_cons] at hi
    split at hi
    · rename_i hg; cases hi; exact ⟨rfl, .inr ⟨_, hg.symm, _, ⟨rfl, rfl⟩, SlotsRotatesR.sat1 hL⟩⟩
    rw [Av.get_cons] at hi
    split at hi
    · rename_i hg; cases hi; exact ⟨rfl, .inr ⟨_, hg.symm, _, ⟨rfl, rfl⟩, SlotsRotatesR.sat2 hL⟩⟩
    cases hi
  subst he
  exact ⟨_, rfl, Av.post_places hW' (fun _ _ _ => trodAll_mk1 (shut_bool Tryd.underlying4 true))
    (fun sp hsp => trodAll_cons_mk (p := p0) (hst0 W' sp q4 fun p hp => hsp p (List.mem_append_left _ hp)) (show DataW.TrodAll enc Tryd.prog W' 0 sp true [31, 5] [v1, .int .u8 n] _ p1 from by
      have := trodAll_cons_mk (p := p1) (hst1 W' sp q4 fun p hp => hsp p (List.mem_append_right _ hp)) (trodAll_mk1 (shut_int (enc := enc) (base := 0) (spare := sp) (held := true) (w := W') Tryd.underlying5 wn))
      rwa [List.append_nil] at this)) (fun _ => rfl)
    (Av.kept_of_same q1 q2 q4 _)⟩

theorem slotsrotates_holds : Rows.SlotsRotatesSaid :=
  OpenClaim.holds_of_wide 5 Tryd.f5 rfl rfl rfl rfl rfl rfl rfl ⟨rfl, rfl, rfl, rfl, rfl⟩ rfl rfl rfl rfl rfl (by kernel_rfl) Tryd.func5 (by kernel_rfl)
    (of_decide_eq_true (by kernel_rfl)) (by unfold Func.isWrapper; rw [if_neg (by decide +kernel)]; exact ⟨rfl, rfl⟩)
    (fun os started H enc _ => slotsrotates_lifted os started H enc)

theorem slotsrotates_card_holds : Rows.SlotsRotatesCardSaid :=
  Claim7.holds_tied_plain_at .later [] [.data, .data, .data] true (true, "f4e0c4aff804dd3c7e9e594ea7ca439caaff57e065a2579307a23311c8ac6e21") false slotsrotates_holds (fun _ h => by cases h) (by kernel_rfl) (fun _ h => by cases h) slotsRotates_row_tie rfl ⟨rfl, rfl⟩ (by kernel_rfl) rfl
    (fun f fn hf hfn => by
      obtain rfl : f = 5 := Option.some.inj ((show Tryd.prog.funcNamed "reliquary/reliquarylaw12.SlotsRotates" = some 5 by kernel_rfl).symm.trans hf) |>.symm
      obtain rfl : fn = Tryd.f5 := (Option.some.inj (Tryd.func5.symm.trans hfn)).symm
      exact ⟨by kernel_rfl, fun j t ht => by
        rw [Tryd.params5] at ht
        have hm : t ∈ [31, 31, 5] := by simpa using Array.mem_of_getElem? ht
        have hall : ([31, 31, 5].all fun u => !Tryd.prog.wantsStandIn u) = true := by kernel_rfl
        exact (show Tryd.prog.wantsStandIn t = false by simpa using List.all_eq_true.1 hall t hm)⟩)
    (by kernel_rfl)
end Go.Proofs.YtodkhgofmgaafaaDoor
