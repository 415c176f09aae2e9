/- What was laid is read as it was, whatever is laid in other clusters, and is seen as no other kind: for every key, two places and bytes, with the constants of the sums as the program's texts lay them. -/
import Derived.Test.YtodkhgofmgaafaaDoorM7
import Derived.Test.YtodkhgofmgaafaaDoorRows
import Derived.Test.YtodkhgofmgaafaaDoorTie
import Derived.Test.YtodkhgofmgaafaaDoorCards
import Derived.SevenTiedAt
import Derived.SizedLaws
namespace Go.Proofs.YtodkhgofmgaafaaDoor
open Go Go.Proofs Go.Proofs.YtodkhgofmgaafaaDoor Go.ChangeShapes Go.WideShapes Go.ChangeAt Go.RowKit
set_option linter.all false
set_option maxRecDepth 3000

theorem SpaceBackR.own : ownKnob Tryd.prog.godebug = none := by kernel_rfl

theorem SpaceBackR.laid0 : (Rows.laid_reliquary_sha_roots : DataW Unit) = .agg (Av.K256.map fun b => .lit (.int .u32 b.toNat)) := by kernel_rfl

theorem SpaceBackR.sat0 {W : World} (h : laidMetH Tryd.prog Rows.spaceBackRow.laid W) : Av.SatE (fun _ => none) ⟨.arr 64 .cell, .u32s Av.K256, false⟩ ⟨2, 0, 64, .arr 64 .cell⟩ W := by
  rw [MakeChecks.laidMetH_plain _ _ _ (by kernel_rfl)] at h
  have hr := Lib.laidMet.reads h (n := "reliquary/sha.roots") (d := Rows.laid_reliquary_sha_roots) (by simp [Rows.spaceBackRow])
  rw [SpaceBackR.laid0] at hr
  exact Av.sat_u32s (t := 196) (e := 73) (by kernel_rfl) (by kernel_rfl) Tryd.underlying196 Tryd.underlying73 (by kernel_rfl) (by kernel_rfl) Av.K256_length hr

theorem key_can {x : Av.D} (h : Av.canE Tryd.prog 2 25 x) : ∃ l : List (BitVec 8), x = .u8s l ∧ l.length = 32 := by
  simp only [Av.canE, Tryd.underlying25, show Av.oddB Tryd.prog 5 = 1 by kernel_rfl] at h
  exact h
theorem two_can {x : Av.D} (h : Av.canE Tryd.prog 2 64 x) : ∃ l : List (BitVec 8), x = .u8s l ∧ l.length = 2 := by
  simp only [Av.canE, Tryd.underlying64, show Av.oddB Tryd.prog 5 = 1 by kernel_rfl] at h
  exact h

set_option maxRecDepth 100000 in
theorem spaceback_lifted (os : Os) (started : os.Started) (H : Type) (enc : TypeId × Value → H) :
    ReturnsInHanded {} Tryd.checked os 11 .any (fun w args => (Rows.spaceBackSpec.pre enc Tryd.prog Tryd.f11 Rows.spaceBackRow.domain false w args ∧ laidMetH Tryd.prog Rows.spaceBackRow.laid w) ∧ sizedMet enc Tryd.prog Tryd.f11 (OpenSpec.ofChange Rows.spaceBackSpec) false w args)
      (Rows.spaceBackSpec.post enc Tryd.prog Tryd.f11 false true false false) := by
  refine returnsInHanded_of_change_and (C := Tryd.checked) (X := fun w _ => laidMetH Tryd.prog Rows.spaceBackRow.laid w) (fun _ _ _ hh h => h.of_heap hh) SpaceBackR.own started (by kernel_rfl) Tryd.func11
    (ChangeSpec.witness_shaped (enc := enc) (C := Tryd.checked) (os := os) (X := fun w _ => laidMetH Tryd.prog Rows.spaceBackRow.laid w) false (World.laidAll Tryd.prog os Rows.spaceBackRow.laid) #[.agg (List.replicate 32 (Value.int .u8 0)).toArray, .agg (List.replicate 2 (Value.int .u8 0)).toArray, .slice none 0 0] 8 (World.laidAll_os _ _ _)
      (World.shaped_of_ZipB (by kernel_rfl) (by kernel_rfl)) (by kernel_rfl) (by kernel_rfl) (by kernel_rfl)
      (by rw [MakeChecks.laidMetH_plain _ _ _ (by kernel_rfl)]; exact laidMet_laidAll _ (by kernel_rfl) (by kernel_rfl))) ?_
  intro W base args ds gs before hval0 hW _ hsz hL _
  have hval : ∀ (j : Nat) t v, Tryd.f11.params[j]? = some t → args[j]? = some v → Value.okWide Tryd.prog W .any base t v := hval0
  have hW' := hW
  obtain ⟨p, q, hA0, hV, rfl, _, _⟩ := hW
  have hA : DataW.TrodAll enc Tryd.prog W 0 (fun _ => true) true Tryd.f11.params.toList args.toList ds p := hA0
  rw [Tryd.params11] at hA hval hsz
  obtain ⟨v0, v1, v2, d0, d1, d2, p0, p1, p2, rfl, rfl, rfl, h0, h1, h2⟩ := trodAll_three hA
  obtain ⟨rfl, rfl⟩ := trodVars_none hV
  obtain ⟨x0, hx0, rfl, hrep0, hstay0⟩ := Av.open_flat 2 (by kernel_rfl) (hval 0 25 v0 rfl rfl) (by rw [Tryd.underlying25]) h0
  obtain ⟨K, rfl, hK⟩ := key_can hx0
  have hrep0 : ∀ ρ, Av.Rep ρ (.u8s K) v0 := fun ρ => by
    obtain ⟨h2, xs, h3⟩ := hrep0 ρ
    subst h3
    exact ⟨xs.toList, by simp, by simpa [Value.cells] using h2⟩
  obtain ⟨x1, hx1, rfl, hrep1, hstay1⟩ := Av.open_flat 2 (by kernel_rfl) (hval 1 64 v1 rfl rfl) (by rw [Tryd.underlying64]) h1
  obtain ⟨n, rfl, hn⟩ := two_can hx1
  have hrep1 : ∀ ρ, Av.Rep ρ (.u8s n) v1 := fun ρ => by
    obtain ⟨h2, xs, h3⟩ := hrep1 ρ
    subst h3
    exact ⟨xs.toList, by simp, by simpa [Value.cells] using h2⟩
  obtain ⟨l0, L0, y0, hy0, hs0, hr0, hst0, hes0⟩ := Av.open_slD2 Tryd.underlying31 Tryd.underlying5 (by kernel_rfl) (Av.sat_none (SpaceBackR.sat0 hL)) (hval 2 31 v2 rfl rfl) h2
  have hlen : l0.length ≤ 140737488355328 := by
    rcases hes0 with h | ⟨es, sp0, hd2, hes⟩
    · omega
    · subst hd2
      have := sized_slice hsz (j := 2) (t := 31) (e := 5) (elems := es) (spare := sp0) rfl rfl Tryd.underlying31
      rw [show Tryd.checked.prog.bytesOf 5 = 1 by kernel_rfl, hes] at this
      have h2 := reachBytes_lt
      omega
  clear hA0 hval0
  simp only [List.append_nil, List.nil_append] at hW'
  refine (Av.calls_bool_n (np := 1) (by decide) (Av.spaceback_ac K n l0 l0.length y0 hK hn rfl hlen) (W := W) (loc := fun _ => L0) (vals := [v0, v1, v2]) ⟨hrep0 _, hrep1 _, hr0 _ 0 rfl, trivial⟩ (fun i e hi => ?_)).mono fun e W' ⟨he, q1, q2, q3, q4⟩ => ?_
  · rw [Av.get_cons] at hi
    split at hi
    · rename_i hg; cases hi; subst hg; exact ⟨rfl, .inl ⟨by decide, hs0⟩⟩
    rw [Av.get_cons] at hi
    split at hi
    · rename_i hg; cases hi; exact ⟨rfl, .inr ⟨_, hg.symm, _, ⟨rfl, rfl⟩, SpaceBackR.sat0 hL⟩⟩
    cases hi
  subst he
  exact ⟨_, rfl, Av.post_places hW' (fun _ _ _ => trodAll_mk1 (shut_bool Tryd.underlying4 true))
    (fun sp hsp => trodAll_cons_mk (p := []) (hstay0 _ _ _ _) (trodAll_cons_mk (p := []) (hstay1 _ _ _ _) (trodAll_mk1 (hst0 W' sp q4 hsp)))) (fun _ => rfl)
    (Av.kept_of_same q1 q2 q4 _)⟩

theorem spaceback_holds : Rows.SpaceBackSaid :=
  OpenClaim.holds_of_wide 11 Tryd.f11 rfl rfl rfl rfl rfl rfl rfl ⟨rfl, rfl, rfl, rfl, rfl⟩ rfl rfl rfl rfl rfl (by kernel_rfl) Tryd.func11 (by kernel_rfl)
    (of_decide_eq_true (by kernel_rfl)) (by unfold Func.isWrapper; rw [if_neg (by decide +kernel)]; exact ⟨rfl, rfl⟩)
    (fun os started H enc _ => spaceback_lifted os started H enc)

theorem spaceback_card_holds : Rows.SpaceBackCardSaid :=
  Claim7.holds_tied_plain_at .later [] [.data] true (true, "f4e0c4aff804dd3c7e9e594ea7ca439caaff57e065a2579307a23311c8ac6e21") false spaceback_holds (fun _ h => by cases h) (by kernel_rfl) (fun _ h => by cases h) spaceBack_row_tie rfl ⟨rfl, rfl⟩ (by kernel_rfl) rfl
    (fun f fn hf hfn => by
      obtain rfl : f = 11 := Option.some.inj ((show Tryd.prog.funcNamed "reliquary/reliquarylaw16.SpaceBack" = some 11 by kernel_rfl).symm.trans hf) |>.symm
      obtain rfl : fn = Tryd.f11 := (Option.some.inj (Tryd.func11.symm.trans hfn)).symm
      exact ⟨by kernel_rfl, fun j t ht => by
        rw [Tryd.params11] at ht
        have hm : t ∈ [25, 64, 31] := by simpa using Array.mem_of_getElem? ht
        have hall : ([25, 64, 31].all fun u => !Tryd.prog.wantsStandIn u) = true := by kernel_rfl
        exact (show Tryd.prog.wantsStandIn t = false by simpa using List.all_eq_true.1 hall t hm)⟩)
    (by kernel_rfl)
end Go.Proofs.YtodkhgofmgaafaaDoor
